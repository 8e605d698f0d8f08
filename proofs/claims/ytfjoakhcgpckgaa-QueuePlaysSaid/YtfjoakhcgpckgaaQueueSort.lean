/- Contract: queue.Sort. -/
import Derived.Test.YtfjoakhcgpckgaaQueueRef
namespace Go.Proofs.Ytfjoakhcgpckgaa
open Go.ChangeShapes Go.WideShapes Go.ChangeAt Go.RowKit
set_option linter.unusedVariables false
open Hp
/-- things in the order in which they came, the first one is born at 1 -/
def Row1 (ls : List Th) : Prop := ∀ (i : Nat) (t : Th), ls[i]? = some t → t.born = (i : Int) + 1 ∧ t.blk = 0
theorem Row1.take {ls : List Th} (h : Row1 ls) (k : Nat) : Row1 (ls.take k) := fun i t hi => by
  rw [List.getElem?_take] at hi
  split at hi
  · exact h i t hi
  · cases hi
theorem Row1.sorted {ls : List Th} (h : Row1 ls) : (ls.map Th.born).Pairwise (· < ·) := by
  rw [List.pairwise_iff_getElem]
  intro i j hi hj hij
  simp only [List.length_map] at hi hj
  have h1 := (h i _ (List.getElem?_eq_getElem hi)).1
  have h2 := (h j _ (List.getElem?_eq_getElem hj)).1
  simp only [List.getElem_map]
  omega
theorem nodup_of_lt {l : List Int} (h : l.Pairwise (· < ·)) : l.Nodup := h.imp fun a => by omega
def Dup (ls : List Th) : Prop := ∃ (k : Nat) (t u : Th), ls[k]? = some t ∧ u ∈ ls.take k ∧ u.id = t.id
def SortEnd (ls : List Th) (v : Value) (z : Int) (w' : World) : Prop :=
  (200 < ls.length ∧ v = .slice none 0 0 ∧ z = 2) ∨ (ls.length ≤ 200 ∧ Dup ls ∧ v = .slice none 0 0 ∧ z = 6) ∨
    (ls.length ≤ 200 ∧ ¬ Dup ls ∧ z = 0 ∧ ∃ os, os.Perm ls ∧ os.Pairwise le ∧ IsRow w' v os.length (items os))
theorem QW.below {F : Nat → Prop} {gq gm : Nat} {born : Int} {M : Int → Option Nat} {q : Nat} {v : Value} {ts : List Th} {w w' : World} (h : QW F gq gm born M q v ts w) (hb : Below w.heap.size w w') : QW F gq gm born M q v ts w' :=
  ⟨h.hw.below hb, h.map.below hb, h.fm, h.heap, h.ids, h.old, h.dif⟩
theorem QW.wide {F G : Nat → Prop} {gq gm : Nat} {born : Int} {M : Int → Option Nat} {q : Nat} {v : Value} {ts : List Th} {w : World} (h : QW F gq gm born M q v ts w) (hG : ∀ k, F k → G k) : QW G gq gm born M q v ts w :=
  ⟨h.hw.wide hG, h.map, hG _ h.fm, h.heap, h.ids, h.old, h.dif⟩
theorem QW.has {F : Nat → Prop} {gq gm : Nat} {born : Int} {M : Int → Option Nat} {q : Nat} {v : Value} {ts ls : List Th} {w : World} (h : QW F gq gm born M q v ts w) (hp : (ts.map strip).Perm ls) {id : Int} {b : Nat} (hb : M id = some b) : ∃ u, u ∈ ls ∧ u.id = id := by
  obtain ⟨t, h1, h2, _⟩ := (h.ids id b).1 hb
  exact ⟨strip t, hp.mem_iff.1 (List.mem_map.2 ⟨t, h1, rfl⟩), h2⟩
theorem QW.hasnt {F : Nat → Prop} {gq gm : Nat} {born : Int} {M : Int → Option Nat} {q : Nat} {v : Value} {ts ls : List Th} {w : World} (h : QW F gq gm born M q v ts w) (hp : (ts.map strip).Perm ls) {id : Int} (hb : M id = none) : ∀ u, u ∈ ls → u.id ≠ id := fun u hu he => by
  obtain ⟨t, h1, h2⟩ := List.mem_map.1 (hp.mem_iff.2 hu)
  have := (h.ids id t.blk).2 ⟨t, h1, by rw [← he, ← h2]; rfl, rfl⟩
  rw [hb] at this
  cases this
/-- what Sort's loop keeps -/
structure Sorting (B gq gm k : Nat) (ls cs : List Th) (v : Value) (M : Int → Option Nat) (q : Nat) (w wr : World) : Prop where
  qw : QW (fun x => B ≤ x) gq gm (k : Int) M q v cs wr
  perm : (cs.map strip).Perm (ls.take k)
  few : q ≤ k
  new : ∀ (j : Nat) (t u : Th), j < k → ls[j]? = some t → u ∈ ls.take j → u.id ≠ t.id
  below : Below B w wr
set_option maxRecDepth 20000 in
set_option maxHeartbeats 4000000 in
theorem Sort_any (ls : List Th) (a : Option Addr) (n cap : Nat) (w : World) (hn : n = ls.length) (hW : Vals w a (items ls)) (h1 : Row1 ls) (hid : ∀ t, t ∈ ls → (Lit.int .i64 t.id).wf = true) :
    Calls Try.prog 13 #[.slice a n cap] w fun e w' => ∃ v z, e = .returned (.tuple #[v, .int .i64 z]) ∧ SortEnd ls v z w' ∧ Below w.heap.size w w' := by
  have HW := Lib.hid hW
  have HN := Lib.hid hn
  have HR1 := Lib.hid h1
  have HID := Lib.hid hid
  clear hW hn h1 hid
  by_cases hl : 200 < n
  · have hl1 : (n : Int) > 200 := by omega
    go_enter Try.func13, Try.ntmps13
    go_wp2_with fail
    go_ret2
    exact ⟨_, _, rfl, .inl ⟨by rw [← HN.out]; exact hl, rfl, rfl⟩, Below.refl _ _⟩
  · have hl1 : ¬ (n : Int) > 200 := by omega
    obtain ⟨B, hB⟩ : ∃ B, B = w.heap.size := ⟨_, rfl⟩
    have HB0 := Lib.hid hB
    clear hB
    go_enter Try.func13, Try.ntmps13
    go_wp2_with (go_at_call 21; refine Calls.mono (New_any _) ?_; rintro e w1 ⟨gq, gm, rfl, hq, hb⟩; rw [← HB0.out] at hq hb; have HS0 : Hid (Sorting B gq gm 0 ls [] (.slice none 0 0) (fun _ => none) 0 w w1) := Lib.hid ⟨hq, by simp, Nat.le_refl _, fun j t u hj => absurd hj (by omega), hb⟩; clear hq hb)
    go_loopw [14] (fun x wr => ∃ (k q : Nat) (v : Value) (cs : List Th) (M : Int → Option Nat), k ≤ n ∧ x = .int .i64 k ∧ Hid (Sorting B gq gm k ls cs v M q w wr)) (fun v _ => n - (intOf v).toNat)
    case atStart => exact ⟨0, 0, _, _, _, by omega, rfl, HS0⟩
    case round =>
      clear HS0
      obtain ⟨k, q, v, cs, M, hk, rfl, HS⟩ := hrel
      have hsz := HS.out.below.size
      by_cases hkn : k < n
      · obtain ⟨t, ht⟩ : ∃ t, ls[k]? = some t := ⟨_, List.getElem?_eq_getElem (by have := HN.out; omega)⟩
        obtain ⟨b, off, rfl, hb, t0, t1⟩ := valsCells (HW.out.below (HB0.out ▸ HS.out.below) (Nat.le_refl _)) ht
        have HT := Lib.hid ht
        have hwf := HID.out t (List.mem_of_getElem? ht)
        obtain ⟨W2, hW2⟩ : ∃ W, W = wr.alloc (.cells #[.int .i64 t.prio, .int .i64 t.id] 30) := ⟨_, rfl⟩
        go_upto_region 7 with fail
        rw [← hW2]
        have hB2 : Below wr.heap.size wr W2 := by rw [hW2]; exact (Below.refl _ _).alloc (Nat.le_refl _) _
        have d0 : W2.cell? ⟨wr.heap.size, 0, none⟩ = some (.int .i64 t.prio) := by rw [hW2]; simp
        have d1 : W2.cell? ⟨wr.heap.size, 1, none⟩ = some (.int .i64 t.id) := by rw [hW2]; simp
        have l0 : wr.heap.size < W2.heap.size := by rw [hW2]; simp
        have HQ2 := Lib.hid (HS.out.qw.below hB2)
        have HB2 := Lib.hid (HS.out.below.trans (hB2.mono (by have := HB0.out; omega)))
        clear hW2 hB2 ht t0 t1
        cases hM : M t.id with
        | some bb =>
          have HDU : Hid (Dup ls) := Lib.hid (by
            obtain ⟨u, h1, h2⟩ := HQ2.out.has HS.out.perm hM
            exact ⟨k, t, u, HT.out, h1, h2⟩)
          go_wp2_with (go_at_call 22; refine Calls.mono (Put_there _ gq gm _ M q v cs _ t.prio t.id HQ2.out hwf bb hM) ?_; rintro e w3 ⟨rfl, rfl⟩)
          go_ret2
          exact ⟨_, _, rfl, .inr (.inl ⟨by rw [← HN.out]; omega, HDU.out, rfl, rfl⟩), HB0.out ▸ HB2.out⟩
        | none =>
          have HNE := Lib.hid (HQ2.out.hasnt HS.out.perm hM)
          have hcl : cs.length < 200 := by
            have h1 := HS.out.perm.length_eq
            rw [List.length_map, List.length_take] at h1
            omega
          have hk9 : (0 : Int) ≤ (k : Int) ∧ (k : Int) ≤ 1000000000 := by omega
          have hq9 : q ≤ 1000000 := by have := HS.out.few; omega
          go_wp2_with (go_at_call 22; refine Calls.mono (Put_good _ gq gm _ M q v cs _ t.prio t.id HQ2.out hwf hM hcl hk9 hq9) ?_; rintro e w3 ⟨rfl, v', us, u, hu1, hu2, hu3, hp, hq3, hk3⟩; have HU := Lib.hid (show strip u = t from by have h9 := HR1.out k t HT.out; cases u; cases t; simp only at hu1 hu2 hu3 h9; simp only [strip, Th.mk.injEq]; exact ⟨hu1, hu2, hu3.trans h9.1.symm, h9.2.symm⟩); have HP := Lib.hid hp; have HQ3 := Lib.hid hq3; have HK3 := Lib.hid hk3; clear hu1 hu2 hu3 hp hq3 hk3)
          have HS3 : Hid (Sorting B gq gm (k + 1) ls us v' (setM M t.id (some u.blk)) (q + 1) w w3) := Lib.hid (by
            have hs2 := HB2.out.size
            refine ⟨HQ3.out.wide fun x hx => ?_, ?_, by have := HS.out.few; omega, fun j t' u' hj hj2 hu' => ?_, ?_⟩
            · rcases hx with hx | hx
              · exact hx
              · have := HB0.out; omega
            · refine (HP.out.map strip).trans ?_
              rw [List.map_append, List.take_add_one, HT.out]
              simp only [Option.toList_some, List.map_cons, List.map_nil]
              rw [HU.out]
              exact List.Perm.append_right _ HS.out.perm
            · by_cases e : j = k
              · subst e
                rw [HT.out] at hj2
                cases hj2
                exact HNE.out u' hu'
              · exact HS.out.new j t' u' (by omega) hj2 hu'
            · exact HB2.out.trans (HK3.out.toBelow (by have := HB0.out; omega) (fun x hx => hx)))
          go_roundw
          case rel => exact ⟨k + 1, _, _, _, _, by omega, rfl, HS3⟩
          case measure => simp [intOf]; omega
      · obtain rfl : k = n := by omega
        have HND : Hid (¬ Dup ls) := Lib.hid (fun ⟨j, t, u, h1, h2, h3⟩ => HS.out.new j t u (by have := (List.getElem?_eq_some_iff.1 h1).1; have := HN.out; omega) h1 h2 h3)
        have HPE := Lib.hid (show (cs.map strip).Perm ls from by have h := HS.out.perm; rwa [HN.out, List.take_length] at h)
        have hcl : cs.length ≤ 200 := by
          have h1 := HPE.out.length_eq
          rw [List.length_map] at h1
          have := HN.out
          omega
        have HCI : Hid (∀ t, t ∈ cs → (Lit.int .i64 t.id).wf = true) := Lib.hid fun t ht => HID.out (strip t) (HPE.out.mem_iff.1 (List.mem_map.2 ⟨t, ht, rfl⟩))
        go_wp2_with (go_at_call 28; refine Calls.mono (List_any _ gq gm _ v cs _ HS.out.qw.hw hcl HCI.out) ?_; rintro e w4 ⟨os, vo, rfl, h1, h2, h3, h4⟩)
        go_ret2
        exact ⟨_, _, rfl, .inr (.inr ⟨by rw [← HN.out]; omega, HND.out, rfl, os, h1.trans HPE.out, h2, h3⟩), HB0.out ▸ HS.out.below.trans (h4.mono (by have := HB0.out; omega))⟩
end Go.Proofs.Ytfjoakhcgpckgaa
