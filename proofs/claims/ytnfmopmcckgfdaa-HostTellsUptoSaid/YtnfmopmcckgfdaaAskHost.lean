/- Contracts: does an ask hold of a host? The program's. -/
import Derived.Test.YtnfmopmcckgfdaaAskAtom
namespace Go.Proofs.Ytnfmopmcckgfdaa
open Go.ChangeShapes Go.WideShapes Go.ChangeAt Go.RowKit
set_option linter.unusedVariables false
open Tp
/-- none of the first j fits -/
def NoFit (g : Lab → Bool) (L : List Lab) (j : Nat) : Prop := ∀ i x, i < j → L[i]? = some x → g x = false
theorem NoFit.zero (g : Lab → Bool) (L : List Lab) : NoFit g L 0 := fun i x h => absurd h (by omega)
theorem NoFit.succ {g : Lab → Bool} {L : List Lab} {j : Nat} {y : Lab} (h : NoFit g L j) (hy : L[j]? = some y) (hf : g y = false) : NoFit g L (j + 1) := fun i x hi hx => by
  by_cases e : i = j
  · subst e; rw [hy] at hx; cases hx; exact hf
  · exact h i x (by omega) hx
theorem NoFit.fin {g : Lab → Bool} {L : List Lab} (h : NoFit g L L.length) : L.any g = false := by
  cases ho : L.any g with
  | false => rfl
  | true =>
    obtain ⟨x, hx, h1⟩ := List.any_eq_true.1 ho
    obtain ⟨i, hi, rfl⟩ := List.getElem_of_mem hx
    rw [h i _ hi (List.getElem?_eq_getElem hi)] at h1; cases h1
theorem any_hit {g : Lab → Bool} {L : List Lab} {j : Nat} {y : Lab} (hy : L[j]? = some y) (hf : g y = true) : L.any g = true := List.any_eq_true.2 ⟨y, List.mem_of_getElem? hy, hf⟩
set_option maxRecDepth 20000 in
set_option maxHeartbeats 4000000 in
theorem index_any (c : Nat) (k : Int) (a b : Bs) (nu : Int) (L : List Lab) (ad : Option Addr) (n cap : Nat) (w : World) (hn : n = L.length) (hmax : n ≤ 9223372036854775807) (hL : Labs w ad L) (hA : AtomAt w c k a b nu) :
    Calls Try.prog 56 #[.slice ad n cap, .func (.func 51) #[] #[.pointer (some ⟨c, 0, none⟩)]] w fun e w' => ∃ i : Int, e = .returned (.int .i64 i) ∧ decide (0 ≤ i) = L.any (labFit k a b) ∧ Below w.heap.size w w' := by
  have HN := Lib.hid hn
  have HL := Lib.hid hL
  have HA := Lib.hid hA
  have hen := enFit
  unfold Enters at hen
  clear hn hL hA
  go_enter Try.func56, Try.ntmps56
  go_wp2_with fail
  go_loopg [8] n (fun g x wr => ∃ j : Nat, j + g = n ∧ x = .int .i64 (j : Int) ∧ Hid (NoFit (labFit k a b) L j) ∧ Hid (Below w.heap.size w wr))
  case atStart => exact ⟨0, by omega, rfl, Lib.hid (NoFit.zero _ _), Lib.hid (Below.refl _ _)⟩
  case round =>
    obtain ⟨j, hj, rfl, HF, HB⟩ := hrel
    by_cases hjn : j < n
    · obtain ⟨y, hy⟩ : ∃ y, L[j]? = some y := ⟨_, List.getElem?_eq_getElem (by rw [← HN.out]; exact hjn)⟩
      obtain ⟨bl, off, rfl, hb, hat⟩ := HL.out (by have := HN.out; omega)
      obtain ⟨r0, r1⟩ := (hat.below HB.out hb) j y hy
      have hbr : bl < wr.heap.size := Nat.lt_of_lt_of_le hb HB.out.size
      have hj1 : (0 : Int) ≤ (j : Int) := by omega
      have hj2 : (j : Int) < (n : Int) := by omega
      have HC := Lib.hid (fit_any c k a b nu y wr (HA.out.below HB.out))
      have HY := Lib.hid hy
      obtain ⟨y1, hy1⟩ : ∃ s, bts y.1 = s := ⟨_, rfl⟩
      obtain ⟨y2, hy2⟩ : ∃ s, bts y.2 = s := ⟨_, rfl⟩
      rw [hy1] at r0 HC
      rw [hy2] at r1 HC
      clear hat hy hy1 hy2
      cases hf : labFit k a b y with
      | true =>
        rw [hf] at HC
        have HV := Lib.hid (any_hit HY.out hf)
        clear hf
        go_wp2_with fail
        refine Calls.mono HC.out ?_
        rintro e' W3 ⟨rfl, h1⟩
        have HB3 := Lib.hid (HB.out.trans (h1.mono HB.out.size))
        clear h1
        go_wp2_with fail
        go_ret
        exact ⟨_, rfl, by rw [HV.out]; simp, HB3.out⟩
      | false =>
        rw [hf] at HC
        have HQ := Lib.hid (HF.out.succ HY.out hf)
        clear hf
        go_wp2_with fail
        refine Calls.mono HC.out ?_
        rintro e' W3 ⟨rfl, h1⟩
        have HB3 := Lib.hid (HB.out.trans (h1.mono HB.out.size))
        clear h1
        go_wp2_with fail
        go_roundg (n - (j + 1))
        case measure => omega
        case rel => exact ⟨j + 1, by omega, by simp, HQ, HB3⟩
    · obtain rfl : j = n := by omega
      have HV : Hid (L.any (labFit k a b) = false) := Lib.hid (by rw [HN.out] at HF; exact HF.out.fin)
      go_wp2_with fail
      go_ret
      exact ⟨_, rfl, by rw [HV.out]; simp, HB.out⟩
set_option maxRecDepth 20000 in
set_option maxHeartbeats 4000000 in
theorem contains_any (c : Nat) (k : Int) (a b : Bs) (nu : Int) (L : List Lab) (ad : Option Addr) (n cap : Nat) (w : World) (hn : n = L.length) (hmax : n ≤ 9223372036854775807) (hL : Labs w ad L) (hA : AtomAt w c k a b nu) :
    Calls Try.prog 50 #[.slice ad n cap, .func (.func 51) #[] #[.pointer (some ⟨c, 0, none⟩)]] w fun e w' => e = .returned (.bool (L.any (labFit k a b))) ∧ Below w.heap.size w w' := by
  have HC := Lib.hid (index_any c k a b nu L ad n cap w hn hmax hL hA)
  clear hn hL hA
  go_enter Try.func50, Try.ntmps50
  go_wp2_with fail
  refine Calls.mono HC.out ?_
  rintro e' W3 ⟨i, rfl, hi, h1⟩
  have HI := Lib.hid hi
  have HB3 := Lib.hid h1
  clear h1 hi
  go_wp2_with fail
  go_ret
  exact ⟨ret_bool HI.out, HB3.out⟩
/-- a host -/
structure Hst where
  name : Bs
  labels : List Lab
  has : Amt
  used : Amt
/-- does an atom hold of a host? -/
def atomB (h : Hst) : Ask → Bool
  | .mk k a b n _ => if k = 3 then decide (n ≤ h.has.get a) else h.labels.any (labFit k a b)
/-- a host's cells, boxed -/
structure HostAt (w : World) (c : Nat) (h : Hst) (la : Option Addr) (ln lc : Nat) : Prop where
  c1 : w.cell? ⟨c, 1, none⟩ = some (.slice la ln lc)
  c2 : w.cell? ⟨c, 2, none⟩ = some (.int .i64 h.has.cpu)
  c3 : w.cell? ⟨c, 3, none⟩ = some (.int .i64 h.has.mem)
  c4 : w.cell? ⟨c, 4, none⟩ = some (.int .i64 h.has.gpu)
  lt : c < w.heap.size
  len : ln = h.labels.length
  cap : ln ≤ lc
  max : ln ≤ 9223372036854775807
  row : Labs w la h.labels
theorem HostAt.below {w w' : World} {c : Nat} {h : Hst} {la : Option Addr} {ln lc : Nat} (hh : HostAt w c h la ln lc) (hb : Below w.heap.size w w') : HostAt w' c h la ln lc :=
  ⟨(hb.cell (p := ⟨c, _, none⟩) hh.lt).trans hh.c1, (hb.cell (p := ⟨c, _, none⟩) hh.lt).trans hh.c2, (hb.cell (p := ⟨c, _, none⟩) hh.lt).trans hh.c3, (hb.cell (p := ⟨c, _, none⟩) hh.lt).trans hh.c4, Nat.lt_of_lt_of_le hh.lt hb.size, hh.len, hh.cap, hh.max, hh.row.below hb (Nat.le_refl _)⟩
set_option maxRecDepth 20000 in
set_option maxHeartbeats 16000000 in
theorem atom_any (h : Hst) (ch : Nat) (la : Option Addr) (ln lc : Nat) (y : Ask) (v : Value) (w : World) (hh : HostAt w ch h la ln lc) (hv : AskV w y v) : Calls Try.prog 48 #[v, .pointer (some ⟨ch, 0, none⟩)] w fun e w' => e = .returned (.bool (atomB h y)) ∧ Below w.heap.size w w' := by
  cases y with
  | mk k ka va nu l =>
  rw [AskV] at hv
  obtain ⟨ad, n, cap, rfl, hrest⟩ := hv
  clear hrest
  have hb9 : Below w.heap.size w (w.alloc (.cells #[.int .i64 k, .string (bts ka), .string (bts va), .int .i64 nu, .slice ad n cap] 25)) := (Below.refl _ _).alloc (Nat.le_refl _) _
  have HB9 := Lib.hid hb9
  have HH := Lib.hid (hh.below hb9)
  have HAT : Hid (AtomAt (w.alloc (.cells #[.int .i64 k, .string (bts ka), .string (bts va), .int .i64 nu, .slice ad n cap] 25)) w.heap.size k ka va nu) := Lib.hid ⟨by simp, by simp, by simp, by simp, by simp⟩
  obtain ⟨W0, hW0⟩ : ∃ W, W = w.alloc (.cells #[.int .i64 k, .string (bts ka), .string (bts va), .int .i64 nu, .slice ad n cap] 25) := ⟨_, rfl⟩
  rw [← hW0] at HB9 HH HAT
  obtain ⟨cx, hcx⟩ : ∃ c, c = w.heap.size := ⟨_, rfl⟩
  rw [← hcx] at HAT
  have g1 := HH.out.c1
  have g2 := HH.out.c2
  have g3 := HH.out.c3
  have g4 := HH.out.c4
  have glt := HH.out.lt
  have f0 := HAT.out.c0
  have f1 := HAT.out.c1
  have f3 := HAT.out.c3
  have flt := HAT.out.lt
  clear hh hb9
  by_cases h3 : k = 3
  · subst h3
    have HV : Hid (atomB h (Ask.mk 3 ka va nu l) = decide (nu ≤ h.has.get ka)) := Lib.hid (by rw [atomB, if_pos rfl])
    obtain ⟨V, hV⟩ : ∃ V, atomB h (Ask.mk 3 ka va nu l) = V := ⟨_, rfl⟩
    rw [hV] at HV ⊢
    clear hV
    go_enter Try.func48, Try.ntmps48
    go_upto_region 2 with fail
    rw [← hW0, ← hcx]
    clear hW0 hcx
    go_region_held3 (fun W => W.cell? ⟨ch, 2, none⟩ = some (.int .i64 h.has.cpu) ∧ W.cell? ⟨ch, 3, none⟩ = some (.int .i64 h.has.mem) ∧ W.cell? ⟨ch, 4, none⟩ = some (.int .i64 h.has.gpu) ∧ W.cell? ⟨cx, 1, none⟩ = some (.string (bts ka)) ∧ W.cell? ⟨cx, 3, none⟩ = some (.int .i64 nu))
      (first | exact ⟨g2, g3, g4, f1, f3⟩ | exact ⟨(hb1.cell (p := ⟨ch, _, none⟩) (by assumption)).trans g2, (hb1.cell (p := ⟨ch, _, none⟩) (by assumption)).trans g3, (hb1.cell (p := ⟨ch, _, none⟩) (by assumption)).trans g4, (hb1.cell (p := ⟨cx, _, none⟩) (by assumption)).trans f1, (hb1.cell (p := ⟨cx, _, none⟩) (by assumption)).trans f3⟩)
      (first
        | (go_at_call 49; refine Calls.mono (amount_any h.has ka _) ?_; rintro e w1 ⟨rfl, hb1⟩))
    all_goals
      go_wp2_with fail
      go_ret
      have HX := HB9.out.size
      exact ⟨ret_bool HV.out.symm, HB9.out.trans (Below.mono (B := W0.heap.size) (by first | exact (show Below W0.heap.size W0 W0.drew from by go_grown).trans hb1 | (go_grown; done)) HX)⟩
  · have HV : Hid (atomB h (Ask.mk k ka va nu l) = h.labels.any (labFit k ka va)) := Lib.hid (by rw [atomB, if_neg h3])
    have HC := Lib.hid (contains_any cx k ka va nu h.labels la ln lc W0 HH.out.len HH.out.max HH.out.row HAT.out)
    have e3 : (k == 3) = false := by simpa using h3
    obtain ⟨V, hV⟩ : ∃ V, atomB h (Ask.mk k ka va nu l) = V := ⟨_, rfl⟩
    rw [hV] at HV ⊢
    clear hV
    go_enter Try.func48, Try.ntmps48
    go_upto_region 3 with fail
    rw [← hW0, ← hcx]
    clear hW0 hcx
    go_wp2_with fail
    refine Calls.mono HC.out ?_
    rintro e' W3 ⟨rfl, h1⟩
    have HB3 := Lib.hid (HB9.out.trans (h1.mono HB9.out.size))
    clear h1
    go_wp2_with fail
    go_ret
    exact ⟨ret_bool HV.out.symm, HB3.out⟩
theorem enAtom : Enters 48 := fun args w => by kernel_rfl
end Go.Proofs.Ytnfmopmcckgfdaa
