/- JournalPlays: the document's disk: Write and Crash; the program's Sync, Crash, Bytes. -/
import Derived.Test.YtdbipmidjdhjpaaDisk
namespace Go.Proofs.Ytdbipmidjdhjpaa
open Go.ChangeShapes Go.WideShapes Go.ChangeAt Go.RowKit
set_option linter.unusedVariables false

theorem src_of_own {w : World} {base : Nat} {e : TypeId} {size : Nat} {v : Value} {n : Nat} {xs : List Value} (h : w.ownsRow base e size v n xs) : Src w size v n xs := by
  rcases h.2 with ⟨rfl, rfl⟩ | ⟨g, cap, cur, rfl, _⟩
  · exact .inl ⟨rfl, rfl, List.eq_nil_of_length_eq_zero (by simpa using h.1)⟩
  · exact .inr ⟨_, _, rfl, h.1, h.cells rfl⟩
theorem Src.kept {w w1 : World} {size : Nat} {x : Value} {m : Nat} {news : List Value} {row : Option Nat} (h : Src w size x m news) (hg : w.grownBy w1 row) (hne : x.ownBlock = none ∨ x.ownBlock ≠ row) : Src w1 size x m news := by
  rcases h with h | ⟨ad, c, rfl, hl, hc⟩
  · exact .inl h
  · refine .inr ⟨ad, c, rfl, hl, fun j u hu => hg.cell (hc j u hu) ?_⟩
    have : (ad.add j).block = ad.block := by unfold Addr.add; split <;> rfl
    rw [this]
    simpa [Value.ownBlock] using hne

theorem grown_none2 {w w1 w2 : World} {v1 : Value} (h1 : w.grownBy w1 none) (h2 : w1.grownBy w2 v1.ownBlock) (hat : v1.ownBlock = none ∨ v1.ownBlock = some w.heap.size) : w.grownBy w2 none :=
  ⟨h2.os.trans h1.os, h2.tape.trans h1.tape, h2.output.trans h1.output, Nat.le_trans h1.size h2.size, fun k hk hr => (h2.block k (Nat.lt_of_lt_of_le hk h1.size) (fun e => by
    rcases hat with h | h
    · exact hr (e.trans h)
    · rw [h] at e; injection e with e; omega)).trans (h1.block k hk hr)⟩
theorem disk_store2 {w w1 : World} {base B : Nat} {v v' : Value} {L L' : List Int} {s : Nat} (hd : DiskAt w base B v L s) (hB : B < base) (hlt : B < w.heap.size)
    (hown : w1.ownsRow base 5 1 v' L'.length (L'.map (.int .u8))) (hg : w.grownBy w1 none) (hl : L'.length ≤ 100000) (hs : s ≤ L'.length) :
    DiskAt (w1.setCell ⟨B, 0, none⟩ v') base B v' L' s := by
  obtain ⟨c0, c1, f0, f1, _, _, _⟩ := hd
  have e0 : w1.cell? ⟨B, 0, none⟩ = some v := hg.cell c0 (by simp)
  have e1 : w1.cell? ⟨B, 1, none⟩ = some (.int .i64 s) := hg.cell c1 (by simp)
  have g0 : ∀ i, w1.frozen? ⟨B, i, none⟩ = w.frozen? ⟨B, i, none⟩ := fun i => World.frozen?_of_block (hg.block B hlt (by simp))
  refine ⟨World.cell?_setCell_same w1 _ _ e0, ?_, ?_, ?_, ownsRow_set hown hB _, hl, hs⟩
  · rw [World.cell?_setCell_other _ _ _ _ (by simp)]; exact e1
  · rw [World.frozen?_setCell, g0]; exact f0
  · rw [World.frozen?_setCell, g0]; exact f1
theorem writeR_full (w : World) (base B : Nat) (v : Value) (L : List Int) (s : Nat) (a : Option Addr) (m c : Nat) (hd : DiskAt w base B v L s) (hm : 100000 < m + L.length) (hm2 : m ≤ 140737488351232) :
    Calls Try.prog 12 #[.pointer (some ⟨B, 0, none⟩), .slice a m c] w fun e w' => e = .returned (.int .i64 7) ∧ w = w' := by
  obtain ⟨c0, c1, f0, f1, hown, hl, hs⟩ := hd
  obtain ⟨va, vc, rfl, hvc⟩ := slice_shape hown
  clear hown
  go_enter Try.func12, Try.ntmps12
  go_wp2
  go_ret
  exact ⟨rfl, rfl⟩

set_option maxRecDepth 100000 in
set_option maxHeartbeats 1000000 in
theorem writeR_fits (w : World) (base B : Nat) (v : Value) (L xs : List Int) (s : Nat) (a : Option Addr) (c : Nat) (hd : DiskAt w base B v L s) (hB : B < base) (hbase : base ≤ w.heap.size)
    (hm : xs.length + L.length ≤ 100000) (hsrc : Src w 1 (.slice a xs.length c) xs.length (xs.map (.int .u8))) :
    Calls Try.prog 12 #[.pointer (some ⟨B, 0, none⟩), .slice a xs.length c] w (Wrote w base B none (L ++ xs) s 0) := by
  obtain ⟨i0, hi, hz0, hz1, hz2⟩ := info_parts Try.info5
  have hBw : B < w.heap.size := by omega
  have hd' := hd
  obtain ⟨c0, c1, f0, f1, hown, hl, hs⟩ := hd'
  have HD := Lib.hid hd
  obtain ⟨va, vc, rfl, hvc⟩ := slice_shape hown
  have HOWN := Lib.hid hown
  have HSRC := Lib.hid hsrc
  clear hown hsrc hd
  go_enter Try.func12, Try.ntmps12
  go_wp2_with (first
    | (at_builtin; refine wpList_append_any rfl (.const (.slice none 0 0)) (.tmp 18) 31 rfl base 5 i0 (.int .u8 0) 1 1 Try.underlying31 hi hz0 hz1 hz2 rfl (by decide) (.slice none 0 0) 0 [] rfl (World.ownsRow_nil _ _ _ _) _ _ _ rfl (src_of_own HOWN.out) (ints_one .u8 L) (by unfold maxLen; omega) (by omega) hbase ?_; intro v1 w1 hown1 hgrow1 hat1; simp only [Nat.zero_add, List.nil_append] at hown1; have HOWN1 := Lib.hid hown1; have HG1 : Hid (w.grownBy w1 none) := Lib.hid hgrow1; have HAT1 : Hid (_ = none ∨ _) := Lib.hid hat1; have hs1 := hgrow1.size; obtain ⟨va1, vc1, rfl, hvc1⟩ := slice_shape hown1; clear hown1 hgrow1 hat1)
    | (at_builtin; refine wpList_append_any rfl (.tmp 19) (.tmp 20) 31 rfl base 5 i0 (.int .u8 0) 1 1 Try.underlying31 hi hz0 hz1 hz2 rfl (by decide) _ _ _ rfl HOWN1.out _ _ _ rfl (HSRC.out.kept HG1.out (by cases a <;> simp [Value.ownBlock])) (ints_one .u8 xs) (by unfold maxLen; omega) (by omega) (by omega) ?_; intro v2 w2 hown2 hgrow2 hat2; have HOWN2 := Lib.hid hown2; have HG2 := Lib.hid hgrow2; have HAT2 := Lib.hid hat2; have HGG : Hid (w.grownBy w2 none) := Lib.hid (grown_none2 HG1.out HG2.out HAT1.out); have e0 := HGG.out.cell c0 (by simp); have g0 : w2.frozen? ⟨B, 0, none⟩ = false := (World.frozen?_of_block (HGG.out.block B hBw (by simp))).trans f0; obtain ⟨va2, vc2, rfl, hvc2⟩ := slice_shape hown2; clear hown2 hgrow2 hat2))
  go_ret
  refine ⟨rfl, _, disk_store2 HD.out hB hBw (by simpa using HOWN2.out) HGG.out (by simp; omega) (by simp; omega), (Foot.of_grown HGG.out B).setCell 0 _, ?_⟩
  rcases HAT2.out with h | h
  · rcases HAT1.out with h' | h'
    · exact .inl (h.trans h')
    · exact .inr ⟨_, h.trans h', Nat.le_refl _⟩
  · exact .inr ⟨_, h, by omega⟩
end Go.Proofs.Ytdbipmidjdhjpaa
