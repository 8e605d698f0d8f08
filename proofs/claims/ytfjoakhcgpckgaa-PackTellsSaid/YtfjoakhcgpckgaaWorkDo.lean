/- Contracts: jobs in order; long jobs first. -/
import Derived.Test.YtfjoakhcgpckgaaWorkRun
import Derived.Test.YtfjoakhcgpckgaaShareCmp
import Derived.Laws.EntriesVeiled
namespace Go.Proofs.Ytfjoakhcgpckgaa
open Go.ChangeShapes Go.WideShapes Go.ChangeAt Go.RowKit
set_option linter.unusedVariables false
open Wk St
theorem i64len (L : List Int) : (ints64 L).length = L.length := by simp [ints64]
theorem ints64_snoc (L : List Int) (x : Int) : ints64 (L ++ [x]) = ints64 L ++ [.int .i64 x] := by simp [ints64]
set_option maxHeartbeats 1600000 in
theorem numO_any (q : Nat) (w : World) (hq : q ≤ 1000) : Calls Try.prog 130 #[.int .i64 q] w fun e w' => ∃ v, e = .returned v ∧ w'.ownsRow w.heap.size 3 1 v q (ints64 (upn q)) ∧ Below w.heap.size w w' ∧ (q = 0 → v = .slice none 0 0) := by
  go_enter Try.func130, Try.ntmps130
  go_wp2_with fail
  go_loopw [3, 6] (fun v x wr => ∃ i : Nat, i ≤ q ∧ x = .int .i64 i ∧ Hid (wr.ownsRow w.heap.size 3 1 v i (ints64 (upn i))) ∧ Below w.heap.size w wr ∧ Hid (i = 0 → v = .slice none 0 0)) (fun _ x _ => q - (intOf x).toNat)
  case atStart => exact ⟨0, by omega, rfl, Lib.hid (World.ownsRow_nil _ _ _ _), Below.refl _ _, Lib.hid fun _ => rfl⟩
  case round =>
    obtain ⟨i, hi, rfl, HOW, hB, HN⟩ := hrel
    have hsz := hB.size
    by_cases hiq : i < q
    · go_wp2_with (at_builtin; refine wpList_push _ (by rfl) _ _ 58 (by rfl) w.heap.size 3 (.int .i64 0) 8 Try.underlying58 infoIntD (by rfl) u3 i _ (.int .i64 (i : Int)) _ rfl (by rfl) HOW.out (by rfl) (by rfl) (by unfold maxLen; omega) (by omega) (by omega) ?_; intro gg cap2 w4 hown1 hgrow1 hgb hgl; have HPU := Lib.hid hown1; have hB5 := hB.grown hgrow1 hsz (ownBlock_ge HOW.out (Nat.le_refl _)); clear hown1 hgrow1 hgb)
      have HO2 : Hid (w4.ownsRow w.heap.size 3 1 (.slice (some ⟨gg, 0, none⟩) (i + 1) cap2) (i + 1) (ints64 (upn (i + 1)))) := Lib.hid (by rw [upn_snoc, ints64_snoc]; exact HPU.out)
      go_roundw
      case rel => exact ⟨i + 1, by omega, rfl, HO2, hB5, Lib.hid fun h => absurd h (by omega)⟩
      case measure => simp [intOf]; omega
    · obtain rfl : i = q := by omega
      go_wp2_with fail
      go_ret
      exact ⟨_, rfl, HOW.out, hB, HN.out⟩
theorem workE_le (m : Int) (D : List Int) : workE m D = 0 ∨ workE m D = 1 ∨ workE m D = 2 ∨ workE m D = 4 := by
  unfold workE
  split
  · simp
  · split
    · simp
    · split <;> simp
set_option maxHeartbeats 1600000 in
theorem wRun_bad (m : Int) (D : List Int) (a : Option Addr) (n cap : Nat) (w : World) (hn : n = D.length) (hmax : n ≤ 9223372036854775807) (hD : Vals w a (ints64 D)) (hb : workE m D ≠ 0) :
    Calls Try.prog 47 #[.int .i64 m, .slice a n cap] w fun e w' => e = .returned (.tuple #[.slice none 0 0, .int .i64 0, .int .i64 (workE m D)]) ∧ w' = w := by
  have C := Lib.hid (wCheck_any m D a n cap w hn hmax hD)
  obtain ⟨z, hz⟩ : ∃ z, workE m D = z := ⟨_, rfl⟩
  rw [hz] at C hb ⊢
  have hb2 : (z != 0) = true := by simpa using hb
  clear hD hn hz
  go_enter Try.func47, Try.ntmps47
  go_wp2_with (go_at_call 128; refine Calls.mono C.out ?_; rintro e w1 ⟨rfl, h1⟩; obtain rfl := h1.symm)
  go_ret3
  exact ⟨rfl, rfl⟩
def onV (m n : Nat) (D os : List Int) : List Value := (List.range n).map fun j => .int .i64 ((gs m D os).2 j)
def DoPost (m n : Nat) (D os : List Int) (w : World) (e : Ending) (w' : World) : Prop :=
  ∃ v, e = .returned (.tuple #[v, .int .i64 (mx (gs m D os).1 m), .int .i64 0]) ∧ IsVals w' v (onV m n D os) ∧ Below w.heap.size w w'
set_option maxHeartbeats 1600000 in
theorem wRun_good (m : Nat) (D : List Int) (a : Option Addr) (n cap : Nat) (w : World) (hn : n = D.length) (hmax : n ≤ 9223372036854775807) (hD : Vals w a (ints64 D)) (hb : workE m D = 0) :
    Calls Try.prog 47 #[.int .i64 m, .slice a n cap] w fun e w' => DoPost m n D (upn n) w e w' := by
  obtain ⟨g1, g2, g3, g4⟩ := workE_good hb
  have hm : 0 < m := by omega
  have hm2 : m ≤ 20 := by omega
  have h60 : n ≤ 60 := by omega
  have HN := Lib.hid hn
  have HD := Lib.hid hD
  have HO := Lib.hid g4
  have C : Hid (Calls Try.prog 128 #[.int .i64 m, .slice a n cap] w fun e w' => e = .returned (.int .i64 0) ∧ w' = w) := Lib.hid (by have := wCheck_any m D a n cap w hn hmax hD; rwa [hb] at this)
  clear hD hn hb g1 g2 g3 g4
  go_enter Try.func47, Try.ntmps47
  go_wp2_with (first
    | (go_at_call 128; refine Calls.mono C.out ?_; rintro e w1 ⟨rfl, h1⟩; obtain rfl := h1.symm)
    | (go_at_call 130; refine Calls.mono (numO_any n w (by omega)) ?_; rintro e w2 ⟨v, rfl, h1, h2, h3⟩; obtain ⟨a2, c2, rfl, h4⟩ := IsVals.own h1; rw [i64len, upn_length]; have HV2 := Lib.hid h4; have HB2 := Lib.hid h2; clear h1 h2 h3 h4)
    | (go_at_call 129; refine Calls.mono (run_any m n n D (upn n) a a2 cap c2 w2 hm hm2 HN.out h60 (HD.out.below HB2.out (Nat.le_refl _)) HO.out (upn_length n).symm h60 HV2.out (fun o ho => upn_mem.1 ho)) ?_; rintro e w3 ⟨v3, rfl, h5, h6⟩; have HV3 := Lib.hid h5; have HB3 := Lib.hid (HB2.out.trans (h6.mono HB2.out.size)); clear h5 h6))
  go_ret3
  exact ⟨v3, rfl, HV3.out, HB3.out⟩
theorem nanJ_any (x : Int) (w : World) : Calls Try.prog 186 #[.int .i64 x] w fun e w' => e = .returned (.bool false) ∧ w' = w := by
  go_enter Try.func186, Try.ntmps186
  go_wp2_with fail
  go_ret
  exact ⟨rfl, rfl⟩
theorem cmpJ_any (x y : Int) (w : World) : Calls Try.prog 125 #[.int .i64 x, .int .i64 y] w fun e w' => e = .returned (.int .i64 (cmpI x y)) ∧ w' = w := by
  have hn := Lib.hid (fun x w => nanJ_any x w)
  rcases Int.lt_trichotomy x y with h | h | h
  · have HV := Lib.hid (show (-1 : Int) = cmpI x y from by unfold cmpI; rw [if_pos h])
    go_enter Try.func125, Try.ntmps125
    go_wp2_with (go_at_call 186; refine (hn.out _ _).mono ?_; rintro e w1 ⟨rfl, rfl⟩)
    go_ret
    exact ⟨ret_int HV.out, rfl⟩
  · have HV := Lib.hid (show (0 : Int) = cmpI x y from by unfold cmpI; rw [if_neg (by omega), if_neg (by omega)])
    subst h
    go_enter Try.func125, Try.ntmps125
    go_wp2_with (go_at_call 186; refine (hn.out _ _).mono ?_; rintro e w1 ⟨rfl, rfl⟩)
    go_ret
    exact ⟨ret_int HV.out, rfl⟩
  · have HV := Lib.hid (show (1 : Int) = cmpI x y from by unfold cmpI; rw [if_neg (by omega), if_pos h])
    have h2 : ¬ x < y := by omega
    go_enter Try.func125, Try.ntmps125
    go_wp2_with (go_at_call 186; refine (hn.out _ _).mono ?_; rintro e w1 ⟨rfl, rfl⟩)
    go_ret
    exact ⟨ret_int HV.out, rfl⟩
theorem long_enters : Enters 131 := by
  intro args w
  have hf := Try.func131
  have h1 : (Try.f131.name == "runtime.NumGoroutine") = false := by kernel_rfl
  have h2 : Try.f131.name ≠ "runtime.NumGoroutine" := by simpa using h1
  obtain ⟨c, hb⟩ : ∃ c, Try.f131.body = some c := ⟨_, rfl⟩
  simp [callFunc, hf, h2, hb]
/-- the captured row -/
structure LenAt (c b : Nat) (off m cap : Nat) (D : List Int) (w : World) : Prop where
  ptr : w.cell? ⟨c, 0, none⟩ = some (.slice (some ⟨b, off, none⟩) m cap)
  len : m = D.length
  vals : ∀ (q : Nat) (x : Int), D[q]? = some x → w.cell? ⟨b, off + q, none⟩ = some (.int .i64 x)
theorem long1_any (c b off m cap : Nat) (D : List Int) (x y : Int) (w : World) (hx : 0 ≤ x ∧ x < m) (hy : 0 ≤ y ∧ y < m) (h : LenAt c b off m cap D w) :
    Calls Try.prog 131 #[.int .i64 x, .int .i64 y, .pointer (some ⟨c, 0, none⟩)] w fun e w' => e = .returned (.int .i64 (wholeC D x y)) ∧ Drawn w w' := by
  obtain ⟨p, rfl⟩ : ∃ p : Nat, x = (p : Int) := ⟨x.toNat, by omega⟩
  obtain ⟨q, rfl⟩ : ∃ q : Nat, y = (q : Int) := ⟨y.toNat, by omega⟩
  obtain ⟨u, hu⟩ : ∃ u, D[p]? = some u := ⟨_, List.getElem?_eq_getElem (by have := h.len; omega)⟩
  obtain ⟨v, hv⟩ : ∃ v, D[q]? = some v := ⟨_, List.getElem?_eq_getElem (by have := h.len; omega)⟩
  have c1 := h.ptr
  have c2 := h.vals p u hu
  have c3 := h.vals q v hv
  have HV := Lib.hid (show cmpI v u = wholeC D p q from by unfold wholeC; simp only [Int.toNat_natCast, List.getD_eq_getElem?_getD, hu, hv, Option.getD_some])
  have h1 : (p : Int) < (m : Int) := hx.2
  have h2 : (q : Int) < (m : Int) := hy.2
  have h1n : p < m := by omega
  have h2n : q < m := by omega
  obtain ⟨z, hz⟩ : ∃ z, cmpI v u = z := ⟨_, rfl⟩
  have hc := Lib.hid (show ∀ w, Calls Try.prog 125 #[.int .i64 v, .int .i64 u] w fun e w' => e = .returned (.int .i64 z) ∧ w = w' from fun w => (cmpJ_any v u w).mono fun e w' h => ⟨by rw [h.1, hz], h.2.symm⟩)
  have HV2 := Lib.hid (hz.symm.trans HV.out)
  clear hu hv h hz hx hy
  go_enter Try.func131, Try.ntmps131
  go_wp2_with fail
  go_quiet ((go_at_call 125; first | exact quiet_left (hc.out _) | exact quiet_add_left (hc.out _)))
  go_wp2
  go_ret
  exact ⟨ret_int HV2.out, Drawn.drewN _ _⟩
set_option maxHeartbeats 1600000 in
theorem wLong_bad (m : Int) (D : List Int) (a : Option Addr) (n cap : Nat) (w : World) (hn : n = D.length) (hmax : n ≤ 9223372036854775807) (hD : Vals w a (ints64 D)) (hb : workE m D ≠ 0) :
    Calls Try.prog 48 #[.int .i64 m, .slice a n cap] w fun e w' => e = .returned (.tuple #[.slice none 0 0, .int .i64 0, .int .i64 (workE m D)]) ∧ Below w.heap.size w w' := by
  have HB0 := Lib.hid (show Below w.heap.size w (w.alloc (.cells #[.slice a n cap] 36)) from (Below.refl _ _).alloc (Nat.le_refl _) _)
  have C := Lib.hid (wCheck_any m D a n cap _ hn hmax (hD.below HB0.out (Nat.le_refl _)))
  obtain ⟨z, hz⟩ : ∃ z, workE m D = z := ⟨_, rfl⟩
  rw [hz] at C hb ⊢
  have hb2 : (z != 0) = true := by simpa using hb
  clear hD hn hz
  go_enter Try.func48, Try.ntmps48
  go_wp2_with (go_at_call 128; refine Calls.mono C.out ?_; rintro e w1 ⟨rfl, h1⟩; obtain rfl := h1.symm)
  go_ret3
  exact ⟨rfl, HB0.out⟩
end Go.Proofs.Ytfjoakhcgpckgaa
