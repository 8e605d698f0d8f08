/- Contract: Holds, the program's. -/
import Derived.Test.YtnfmopmcckgfdaaAskHost
namespace Go.Proofs.Ytnfmopmcckgfdaa
open Go.ChangeShapes Go.WideShapes Go.ChangeAt Go.RowKit
set_option linter.unusedVariables false
open Tp
/-- a value that reads as a host -/
def HostV (w : World) (h : Hst) (v : Value) : Prop := ∃ la ln lc, v = .agg #[.string (bts h.name), .slice la ln lc, .int .i64 h.has.cpu, .int .i64 h.has.mem, .int .i64 h.has.gpu, .int .i64 h.used.cpu, .int .i64 h.used.mem, .int .i64 h.used.gpu] ∧ ln = h.labels.length ∧ ln ≤ lc ∧ ln ≤ 9223372036854775807 ∧ Labs w la h.labels
theorem HostV.below {w w' : World} {h : Hst} {v : Value} (hv : HostV w h v) (hb : Below w.heap.size w w') : HostV w' h v := by
  obtain ⟨la, ln, lc, e, h1, h2, h3, h4⟩ := hv
  exact ⟨la, ln, lc, e, h1, h2, h3, h4.below hb (Nat.le_refl _)⟩
/-- what Holds answers -/
def Ask.holds (x : Ask) (h : Hst) : Bool := if x.fault = 0 then x.ev (atomB h) else false
theorem fault_err {x : Ask} (h : x.fault = 0) : x.err = 0 ∧ x.size ≤ 60 := by
  unfold Ask.fault at h
  split at h
  · cases h
  · exact ⟨h, by omega⟩
set_option maxRecDepth 20000 in
set_option maxHeartbeats 16000000 in
theorem Holds_any (x : Ask) (h : Hst) (v hv : Value) (w : World) (hs : x.size ≤ 1000000000) (hx : AskV w x v) (hh : HostV w h hv) : Calls Try.prog 29 #[v, hv] w fun e w' => e = .returned (.tuple #[.bool (x.holds h), .int .i64 x.fault]) ∧ Below w.heap.size w w' := by
  obtain ⟨la, ln, lc, rfl, h1, h2, h3, h4⟩ := hh
  cases x with
  | mk k ka va nu l =>
  have hx2 := hx
  rw [AskV] at hx
  obtain ⟨ad, n, cap, rfl, hrest⟩ := hx
  clear hrest
  obtain ⟨x, hxe⟩ : ∃ x, Ask.mk k ka va nu l = x := ⟨_, rfl⟩
  rw [hxe] at hx2 hs ⊢
  obtain ⟨a1, ha1⟩ : ∃ s, bts ka = s := ⟨_, rfl⟩
  obtain ⟨a2, ha2⟩ : ∃ s, bts va = s := ⟨_, rfl⟩
  obtain ⟨a3, ha3⟩ : ∃ s, bts h.name = s := ⟨_, rfl⟩
  rw [ha1, ha2] at hx2 ⊢
  rw [ha3]
  obtain ⟨W0, hW0⟩ : ∃ W, W = (w.alloc (.cells #[.int .i64 k, .string a1, .string a2, .int .i64 nu, .slice ad n cap] 25)).alloc (.cells #[.string a3, .slice la ln lc, .int .i64 h.has.cpu, .int .i64 h.has.mem, .int .i64 h.has.gpu, .int .i64 h.used.cpu, .int .i64 h.used.mem, .int .i64 h.used.gpu] 30) := ⟨_, rfl⟩
  have hb9 : Below w.heap.size w W0 := by rw [hW0]; exact ((Below.refl _ _).alloc (Nat.le_refl _) _).alloc (by simp) _
  have HB9 := Lib.hid hb9
  have hsz : W0.heap.size = w.heap.size + 2 := by rw [hW0]; simp
  have HX0 := Lib.hid (AskV.below hb9 _ _ hx2)
  have HHA : Hid (HostAt W0 (w.heap.size + 1) h la ln lc) := Lib.hid ⟨by rw [hW0]; simp, by rw [hW0]; simp, by rw [hW0]; simp, by rw [hW0]; simp, by omega, h1, h2, h3, h4.below hb9 (Nat.le_refl _)⟩
  have d0 : W0.cell? ⟨w.heap.size, 0, none⟩ = some (.int .i64 k) := by rw [hW0]; simp
  have d1 : W0.cell? ⟨w.heap.size, 1, none⟩ = some (.string a1) := by rw [hW0]; simp
  have d2 : W0.cell? ⟨w.heap.size, 2, none⟩ = some (.string a2) := by rw [hW0]; simp
  have d3 : W0.cell? ⟨w.heap.size, 3, none⟩ = some (.int .i64 nu) := by rw [hW0]; simp
  have d4 : W0.cell? ⟨w.heap.size, 4, none⟩ = some (.slice ad n cap) := by rw [hW0]; simp
  obtain ⟨cx, hcx⟩ : ∃ c, c = w.heap.size := ⟨_, rfl⟩
  rw [← hcx] at d0 d1 d2 d3 d4 HHA hsz
  have HCK := Lib.hid (askCheck_any x _ W0 hs HX0.out)
  obtain ⟨E, hE⟩ : ∃ E, x.fault = E := ⟨_, rfl⟩
  have HE := Lib.hid hE
  rw [hE] at HCK ⊢
  have hc0 : cx < W0.heap.size := by omega
  clear hx2 hxe ha1 ha2 ha3 h1 h2 h3 h4 hE hs hb9
  by_cases he : E = 0
  · have HV : Hid (x.ev (atomB h) = x.holds h) := Lib.hid (by unfold Ask.holds; rw [if_pos (HE.out.trans he)])
    have HF := Lib.hid (fault_err (HE.out.trans he))
    subst he
    obtain ⟨V, hV⟩ : ∃ V, x.holds h = V := ⟨_, rfl⟩
    rw [hV] at HV ⊢
    clear hV hsz
    go_enter Try.func29, Try.ntmps29
    go_upto_region 1 with fail
    rw [← hW0, ← hcx]
    clear hW0 hcx
    go_wp2_with fail
    refine Calls.mono HCK.out ?_
    rintro e' W3 ⟨rfl, hl⟩
    have HB3 := Lib.hid (HB9.out.trans (hl.mono HB9.out.size))
    have HC := Lib.hid (value_all 48 enAtom #[.pointer (some ⟨cx + 1, 0, none⟩)] (atomB h) (fun W => HostAt W (cx + 1) h la ln lc) (fun w w' hj hb => hj.below hb) (fun y v w hj hy _ _ => atom_any h (cx + 1) la ln lc y v w hj hy) x.size x _ W3 (Nat.le_refl _) HF.out.1 (HHA.out.below hl) (AskV.below hl _ _ HX0.out))
    rw [HV.out] at HC
    have e0 := (hl.cell (p := ⟨cx, 0, none⟩) hc0).trans d0
    have e1 := (hl.cell (p := ⟨cx, 1, none⟩) hc0).trans d1
    have e2 := (hl.cell (p := ⟨cx, 2, none⟩) hc0).trans d2
    have e3 := (hl.cell (p := ⟨cx, 3, none⟩) hc0).trans d3
    have e4 := (hl.cell (p := ⟨cx, 4, none⟩) hc0).trans d4
    clear hl d0 d1 d2 d3 d4
    go_wp2_with fail
    refine Calls.mono HC.out ?_
    rintro e' W4 ⟨rfl, hl⟩
    have HB4 := Lib.hid (HB3.out.trans (hl.mono HB3.out.size))
    clear hl
    go_wp2_with fail
    go_ret2
    exact ⟨rfl, HB4.out⟩
  · have HV : Hid (x.holds h = false) := Lib.hid (by unfold Ask.holds; rw [if_neg (by rw [HE.out]; exact he)])
    have he2 : (E != 0) = true := by simpa using he
    rw [HV.out]
    clear hsz he
    go_enter Try.func29, Try.ntmps29
    go_upto_region 1 with fail
    rw [← hW0, ← hcx]
    clear hW0 hcx
    go_wp2_with fail
    refine Calls.mono HCK.out ?_
    rintro e' W3 ⟨rfl, hl⟩
    have HB3 := Lib.hid (HB9.out.trans (hl.mono HB9.out.size))
    clear hl
    go_wp2_with fail
    go_ret2
    exact ⟨rfl, HB3.out⟩
end Go.Proofs.Ytnfmopmcckgfdaa
