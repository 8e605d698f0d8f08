/- JournalPlays: what each call does to the pair of disks. -/
import Derived.Test.YtdbipmidjdhjpaaPair
namespace Go.Proofs.Ytdbipmidjdhjpaa
open Go.ChangeShapes Go.WideShapes Go.ChangeAt Go.RowKit
set_option linter.unusedVariables false

def wcode (L xs : List Int) : Int := if xs.length + L.length ≤ 100000 then 0 else 7
def wlist (L xs : List Int) : List Int := if xs.length + L.length ≤ 100000 then L ++ xs else L
def cOk (L : List Int) (s : Nat) (k : Int) : Bool := decide (0 ≤ k ∧ k ≤ (L.length : Int) - s)
def ccode (L : List Int) (s : Nat) (k : Int) : Int := if cOk L s k then 0 else 1
def clist (L : List Int) (s : Nat) (k : Int) : List Int := if cOk L s k then L.take (s + k.toNat) else L
def csafe (L : List Int) (s : Nat) (k : Int) : Nat := if cOk L s k then s + k.toNat else s

theorem Keeps.refl (W w : World) : Keeps W w w := fun _ _ _ h => h
theorem Keeps.drewN {W w w' : World} (h : Keeps W w w') (n : Nat) : Keeps W w (w'.drewN n) := h
theorem DiskAt.drewN {w : World} {base B : Nat} {v : Value} {L : List Int} {s : Nat} (h : DiskAt w base B v L s) (n : Nat) : DiskAt (w.drewN n) base B v L s := h
theorem Pair.drewN {W w : World} {L : List Int} {s : Nat} {L' : List Int} {s' : Nat} (h : Pair W w L s L' s') (n : Nat) : Pair W (w.drewN n) L s L' s' := by
  obtain ⟨v, v', hd, hd', hne, hsz, hB⟩ := h
  exact ⟨v, v', hd, hd', hne, hsz, below_drewN hB n⟩
theorem DiskAt.grown {w w' : World} {base B : Nat} {v : Value} {L : List Int} {s : Nat} (h : DiskAt w base B v L s) (hg : Below w.heap.size w w') (hB : B < w.heap.size) : DiskAt w' base B v L s := by
  obtain ⟨c0, c1, f0, f1, hown, hl, hs⟩ := h
  exact ⟨(hg.cell (p := ⟨B, 0, none⟩) hB).trans c0, (hg.cell (p := ⟨B, 1, none⟩) hB).trans c1, (hg.frozen (p := ⟨B, 0, none⟩) hB).trans f0, (hg.frozen (p := ⟨B, 1, none⟩) hB).trans f1,
    hown.kept (row := none) ⟨hg.os, hg.tape, hg.output, hg.size, fun k hk _ => hg.block k hk⟩ (by cases v.ownBlock <;> simp), hl, hs⟩
theorem Pair.grown {W w w' : World} {L : List Int} {s : Nat} {L' : List Int} {s' : Nat} (h : Pair W w L s L' s') (hg : Below w.heap.size w w') : Pair W w' L s L' s' := by
  obtain ⟨v, v', hd, hd', hne, hsz, hB⟩ := h
  exact ⟨v, v', hd.grown hg (by omega), hd'.grown hg (by omega), hne, by have := hg.size; omega, hB.trans (hg.mono (by have := hB.size; omega))⟩
theorem Keeps.grown {W w w' : World} (hg : Below w.heap.size w w') : Keeps W w w' := fun A cs _ h => by
  rw [hg.block A (Array.getElem?_eq_some_iff.1 h).1]; exact h
theorem Keeps.trans {W a b c : World} (h : Keeps W a b) (k : Keeps W b c) : Keeps W a c := fun A cs hA hc => k A cs hA (h A cs hA hc)
theorem Src.below {W w : World} {size : Nat} {x : Value} {m : Nat} {news : List Value} (h : Src W size x m news) (hg : Below W.heap.size W w) : Src w size x m news := by
  rcases h with h | ⟨ad, c, rfl, hl, hc⟩
  · exact .inl h
  · refine .inr ⟨ad, c, rfl, hl, fun j u hu => ?_⟩
    have hcell := hc j u hu
    exact (hg.cell (World.block_lt_of_cell? _ _ hcell)).trans hcell

theorem own_take {w : World} {base : Nat} {a : Option Addr} {c n : Nat} {L : List Int} (h : w.ownsRow base 5 1 (.slice a L.length c) L.length (L.map (.int .u8))) (hn : n ≤ L.length) :
    w.ownsRow base 5 1 (.slice a n c) (L.take n).length ((L.take n).map (.int .u8)) := by
  refine ⟨by simp, ?_⟩
  rcases h.2 with ⟨hv, h0⟩ | ⟨g, cap, cur, hv, hb, hg, hnc, hm, hcs, ht⟩
  · injection hv with e1 e2 e3
    left
    refine ⟨by rw [e1, e3]; simp; omega, by simp; omega⟩
  · injection hv with e1 e2 e3
    right
    refine ⟨g, cap, cur, by rw [e1, e3]; simp; omega, hb, hg, by simp; omega, hm, hcs, ?_⟩
    simp only [Nat.mul_one] at ht ⊢
    rw [List.map_take, ← ht, List.take_take]
    congr 1
    simp
theorem disk_crash {w : World} {base B : Nat} {a : Option Addr} {c : Nat} {L : List Int} {s n q : Nat} (hd : DiskAt w base B (.slice a L.length c) L s) (hB : B < base) (hn : n ≤ L.length) :
    DiskAt (((w.drewN q).setCell ⟨B, 0, none⟩ (.slice a n c)).setCell ⟨B, 1, none⟩ (.int .i64 n)) base B (.slice a n c) (L.take n) n := by
  obtain ⟨c0, c1, f0, f1, hown, hl, hs⟩ := hd
  have d0 : (w.drewN q).cell? ⟨B, 0, none⟩ = some (.slice a L.length c) := c0
  have d1 : (w.drewN q).cell? ⟨B, 1, none⟩ = some (.int .i64 s) := c1
  refine ⟨?_, ?_, ?_, ?_, ownsRow_set (ownsRow_set (own_take hown hn) hB _) hB _, by simp; omega, by simp; omega⟩
  · rw [World.cell?_setCell_other _ _ _ _ (by simp)]; exact World.cell?_setCell_same _ _ _ d0
  · exact World.cell?_setCell_same _ _ _ ((World.cell?_setCell_other _ _ _ _ (by simp)).trans d1)
  · rw [World.frozen?_setCell, World.frozen?_setCell]; exact f0
  · rw [World.frozen?_setCell, World.frozen?_setCell]; exact f1
theorem Foot.drewN {w w' : World} {B : Nat} {row : Option Nat} (h : Foot w w' B row) (n : Nat) : Foot w (w'.drewN n) B row := ⟨h.os, h.tape, h.output, h.size, h.block⟩
theorem crash_wrote {w w' : World} {base B : Nat} {a : Option Addr} {c n : Nat} {L : List Int} {s : Nat} {e : Ending} (hd : DiskAt w base B (.slice a L.length c) L s) (hB : B < base) (hn : n ≤ L.length)
    (h : CrashEnd w B a n c e w') : Wrote w base B (Value.slice a L.length c).ownBlock (L.take n) n 0 e w' := by
  obtain ⟨he, q, hw⟩ := h
  subst hw
  refine ⟨he, _, disk_crash hd hB hn, ((((Foot.refl w B _).drewN q).setCell 0 _).setCell 1 _), .inl ?_⟩
  cases a <;> rfl

theorem pair_write {W w : World} {L L' : List Int} {s s' : Nat} (h : Pair W w L s L' s') (a : Option Addr) (c : Nat) (xs : List Int) (hsrc : Src w 1 (.slice a xs.length c) xs.length (xs.map (.int .u8))) (hx : xs.length ≤ 140737488351232) :
    Calls Try.prog 11 #[.pointer (some ⟨W.heap.size, 0, none⟩), .slice a xs.length c] w fun e w' => e = .returned (.int .i64 (wcode L xs)) ∧ Pair W w' (wlist L xs) s L' s' ∧ Keeps W w w' := by
  unfold wcode wlist
  by_cases hm : xs.length + L.length ≤ 100000
  · simp only [if_pos hm]
    have h0 := h
    obtain ⟨v, v', hd, hd', hne, hsz, hB⟩ := h0
    refine (write_fits w _ _ v L xs s a c hd (by omega) hsz hm hsrc).mono fun e w' hw => ⟨hw.1, ?_⟩
    refine h.left (code := 0) (e := e) fun v2 hd2 => ?_
    have : v2 = v := by have e1 := hd.1; rw [hd2.1] at e1; injection e1
    subst this
    exact hw
  · simp only [if_neg hm]
    have h0 := h
    obtain ⟨v, v', hd, hd', hne, hsz, hB⟩ := h0
    refine (write_full w _ _ v L s a xs.length c hd (by omega) hx).mono fun e w' hw => ?_
    obtain ⟨rfl, rfl⟩ := hw
    exact ⟨rfl, h, Keeps.refl _ _⟩
theorem pair_writeR {W w : World} {L L' : List Int} {s s' : Nat} (h : Pair W w L s L' s') (a : Option Addr) (c : Nat) (xs : List Int) (hsrc : Src w 1 (.slice a xs.length c) xs.length (xs.map (.int .u8))) (hx : xs.length ≤ 140737488351232) :
    Calls Try.prog 12 #[.pointer (some ⟨W.heap.size + 1, 0, none⟩), .slice a xs.length c] w fun e w' => e = .returned (.int .i64 (wcode L' xs)) ∧ Pair W w' L s (wlist L' xs) s' ∧ Keeps W w w' := by
  unfold wcode wlist
  by_cases hm : xs.length + L'.length ≤ 100000
  · simp only [if_pos hm]
    have h0 := h
    obtain ⟨v, v', hd, hd', hne, hsz, hB⟩ := h0
    refine (writeR_fits w _ _ v' L' xs s' a c hd' (by omega) hsz hm hsrc).mono fun e w' hw => ⟨hw.1, ?_⟩
    exact h.right (code := 0) (e := e) fun v2 hd2 => ⟨none, .inl rfl, hw⟩
  · simp only [if_neg hm]
    have h0 := h
    obtain ⟨v, v', hd, hd', hne, hsz, hB⟩ := h0
    refine (writeR_full w _ _ v' L' s' a xs.length c hd' (by omega) hx).mono fun e w' hw => ?_
    obtain ⟨rfl, rfl⟩ := hw
    exact ⟨rfl, h, Keeps.refl _ _⟩

theorem cOk_yes {L : List Int} {s : Nat} {k : Int} (h : cOk L s k = true) : 0 ≤ k ∧ k ≤ (L.length : Int) - s := by simpa [cOk] using h
theorem cOk_no {L : List Int} {s : Nat} {k : Int} (h : cOk L s k = false) : k < 0 ∨ (0 ≤ k ∧ (L.length : Int) - s < k) := by
  simp [cOk] at h
  omega

theorem pair_crash {W w : World} {L L' : List Int} {s s' : Nat} (h : Pair W w L s L' s') (k : Int) :
    Calls Try.prog 14 #[.pointer (some ⟨W.heap.size, 0, none⟩), .int .i64 k] w fun e w' => e = .returned (.int .i64 (ccode L s k)) ∧ Pair W w' (clist L s k) (csafe L s k) L' s' ∧ Keeps W w w' := by
  unfold ccode clist csafe
  have h0 := h
  obtain ⟨v, v', hd, hd', hne, hsz, hB⟩ := h0
  cases hc : cOk L s k with
  | false =>
    simp only [Bool.false_eq_true, if_false]
    rcases cOk_no hc with hk | ⟨hk, hk2⟩
    · exact (crash_low w _ _ v L s k hd hk).mono fun e w' hw => ⟨hw.1, h.grown hw.2, Keeps.grown hw.2⟩
    · exact (crash_high w _ _ v L s k hd hk hk2).mono fun e w' hw => ⟨hw.1, h.grown hw.2, Keeps.grown hw.2⟩
  | true =>
    simp only [if_true]
    obtain ⟨hk, hk2⟩ := cOk_yes hc
    have hd0 := hd
    obtain ⟨c0, c1, f0, f1, hown, hl, hs⟩ := hd0
    obtain ⟨kn, rfl⟩ := Int.eq_ofNat_of_zero_le hk
    simp only [Int.toNat_natCast]
    rcases slice_shape2 hown with ⟨rfl, h0⟩ | ⟨g, c, rfl, hgc⟩
    · have hLn : L = [] := List.eq_nil_of_length_eq_zero h0
      subst hLn
      have hs0 : s = 0 := by simpa using hs
      subst hs0
      have hk0 : kn = 0 := by simp at hk2; omega
      subst hk0
      refine (crash_nil w _ c0 c1 f0 f1).mono fun e w' hw => ⟨hw.1, ?_⟩
      refine h.left (code := 0) (e := e) fun v2 hd2 => ?_
      have e1 := hd.1
      rw [hd2.1] at e1
      injection e1 with e1
      subst e1
      exact crash_wrote hd2 (by omega) (by simp) hw
    · refine (crash_some w _ g c L.length s kn c0 c1 f0 f1 hl hgc hs hk2).mono fun e w' hw => ⟨hw.1, ?_⟩
      refine h.left (code := 0) (e := e) fun v2 hd2 => ?_
      have e1 := hd.1
      rw [hd2.1] at e1
      injection e1 with e1
      subst e1
      exact crash_wrote hd2 (by omega) (by omega) hw
theorem pair_crashR {W w : World} {L L' : List Int} {s s' : Nat} (h : Pair W w L s L' s') (k : Int) :
    Calls Try.prog 15 #[.pointer (some ⟨W.heap.size + 1, 0, none⟩), .int .i64 k] w fun e w' => e = .returned (.int .i64 (ccode L' s' k)) ∧ Pair W w' L s (clist L' s' k) (csafe L' s' k) ∧ Keeps W w w' := by
  unfold ccode clist csafe
  have h0 := h
  obtain ⟨v, v', hd, hd', hne, hsz, hB⟩ := h0
  cases hc : cOk L' s' k with
  | false =>
    simp only [Bool.false_eq_true, if_false]
    rcases cOk_no hc with hk | ⟨hk, hk2⟩
    · exact (crashR_low w _ _ v' L' s' k hd' hk).mono fun e w' hw => ⟨hw.1, h.grown hw.2, Keeps.grown hw.2⟩
    · exact (crashR_high w _ _ v' L' s' k hd' hk hk2).mono fun e w' hw => ⟨hw.1, h.grown hw.2, Keeps.grown hw.2⟩
  | true =>
    simp only [if_true]
    obtain ⟨hk, hk2⟩ := cOk_yes hc
    have hd0 := hd'
    obtain ⟨c0, c1, f0, f1, hown, hl, hs⟩ := hd0
    obtain ⟨kn, rfl⟩ := Int.eq_ofNat_of_zero_le hk
    simp only [Int.toNat_natCast]
    rcases slice_shape2 hown with ⟨rfl, h0⟩ | ⟨g, c, rfl, hgc⟩
    · have hLn : L' = [] := List.eq_nil_of_length_eq_zero h0
      subst hLn
      have hs0 : s' = 0 := by simpa using hs
      subst hs0
      have hk0 : kn = 0 := by simp at hk2; omega
      subst hk0
      refine (crashR_nil w _ c0 c1 f0 f1).mono fun e w' hw => ⟨hw.1, ?_⟩
      refine h.right (code := 0) (e := e) fun v2 hd2 => ⟨v2.ownBlock, .inr rfl, ?_⟩
      have e1 := hd'.1
      rw [hd2.1] at e1
      injection e1 with e1
      subst e1
      exact crash_wrote hd2 (by omega) (by simp) hw
    · refine (crashR_some w _ g c L'.length s' kn c0 c1 f0 f1 hl hgc hs hk2).mono fun e w' hw => ⟨hw.1, ?_⟩
      refine h.right (code := 0) (e := e) fun v2 hd2 => ⟨v2.ownBlock, .inr rfl, ?_⟩
      have e1 := hd'.1
      rw [hd2.1] at e1
      injection e1 with e1
      subst e1
      exact crash_wrote hd2 (by omega) (by omega) hw

theorem pair_sync {W w : World} {L L' : List Int} {s s' : Nat} (h : Pair W w L s L' s') :
    Calls Try.prog 13 #[.pointer (some ⟨W.heap.size, 0, none⟩)] w fun e w' => e = .returned (.tuple #[]) ∧ Pair W w' L L.length L' s' ∧ Keeps W w w' := by
  have h0 := h
  obtain ⟨v, v', hd, hd', hne, hsz, hB⟩ := h0
  refine (sync_any w _ _ v L s hd).mono fun e w' hw => ⟨hw.1, ?_⟩
  obtain ⟨_, rfl⟩ := hw
  refine h.left (code := 0) (e := .returned (.int .i64 0)) fun v2 hd2 => ⟨rfl, v2, disk_sync hd2 (by omega) _ (Nat.le_refl _), (Foot.refl _ _ _).setCell 1 _, .inl rfl⟩
theorem pair_syncR {W w : World} {L L' : List Int} {s s' : Nat} (h : Pair W w L s L' s') : Pair W (w.setCell ⟨W.heap.size + 1, 1, none⟩ (.int .i64 L'.length)) L s L' L'.length ∧ Keeps W w (w.setCell ⟨W.heap.size + 1, 1, none⟩ (.int .i64 L'.length)) :=
  h.right (code := 0) (e := .returned (.int .i64 0)) fun v2 hd2 => ⟨v2.ownBlock, .inr rfl, rfl, v2, disk_sync hd2 (by omega) _ (Nat.le_refl _), (Foot.refl _ _ _).setCell 1 _, .inl rfl⟩
end Go.Proofs.Ytdbipmidjdhjpaa
