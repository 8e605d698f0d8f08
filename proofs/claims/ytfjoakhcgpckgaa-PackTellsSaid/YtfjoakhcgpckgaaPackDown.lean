/- Contracts: first fit; first fit, the greatest ones first. -/
import Derived.Test.YtfjoakhcgpckgaaPackFirst
namespace Go.Proofs.Ytfjoakhcgpckgaa
open Go.ChangeShapes Go.WideShapes Go.ChangeAt Go.RowKit
set_option linter.unusedVariables false
open Wk St
set_option maxHeartbeats 1600000 in
theorem pNumO_any (q : Nat) (w : World) (hq : q ≤ 1000) : Calls Try.prog 122 #[.int .i64 q] w fun e w' => ∃ v, e = .returned v ∧ w'.ownsRow w.heap.size 3 1 v q (ints64 (upn q)) ∧ Below w.heap.size w w' ∧ (q = 0 → v = .slice none 0 0) := by
  go_enter Try.func122, Try.ntmps122
  go_wp2_with fail
  go_loopw [3, 6] (fun v x wr => ∃ i : Nat, i ≤ q ∧ x = .int .i64 i ∧ Hid (wr.ownsRow w.heap.size 3 1 v i (ints64 (upn i))) ∧ Below w.heap.size w wr ∧ Hid (i = 0 → v = .slice none 0 0)) (fun _ x _ => q - (intOf x).toNat)
  case atStart => exact ⟨0, by omega, rfl, Lib.hid (World.ownsRow_nil _ _ _ _), Below.refl _ _, Lib.hid fun _ => rfl⟩
  case round =>
    obtain ⟨i, hi, rfl, HOW, hB, HN⟩ := hrel
    have hsz := hB.size
    by_cases hiq : i < q
    · go_wp2_with (at_builtin; refine wpList_push _ (by rfl) _ _ 58 (by rfl) w.heap.size 3 (.int .i64 0) 8 Try.underlying58 infoIntD (by rfl) u3 i _ (.int .i64 (i : Int)) _ rfl (by rfl) HOW.out (by rfl) (by rfl) (by unfold maxLen; omega) (by omega) (by omega) ?_; intro gg cap2 w4 hown1 hgrow1 hgb hgl; have HPU := Lib.hid hown1; have hB5 := hB.grown hgrow1 hsz (ownBlock_ge HOW.out (Nat.le_refl _)); clear hown1 hgrow1 hgb)
      have HO2 : Hid (w4.ownsRow w.heap.size 3 1 (.slice (some ⟨gg, 0, none⟩) (i + 1) cap2) (i + 1) (ints64 (upn (i + 1)))) := Lib.hid (by rw [upn_snoc, ints64_snoc]; exact HPU.out)
      go_roundw
      case rel => exact ⟨i + 1, by omega, rfl, HO2, hB5, Lib.hid fun h => absurd h (by omega)⟩
      case measure => simp [intOf]; omega
    · obtain rfl : i = q := by omega
      go_wp2_with fail
      go_ret
      exact ⟨_, rfl, HOW.out, hB, HN.out⟩
theorem down_enters : Enters 124 := by
  intro args w
  have hf := Try.func124
  have h1 : (Try.f124.name == "runtime.NumGoroutine") = false := by kernel_rfl
  have h2 : Try.f124.name ≠ "runtime.NumGoroutine" := by simpa using h1
  obtain ⟨c, hb⟩ : ∃ c, Try.f124.body = some c := ⟨_, rfl⟩
  simp [callFunc, hf, h2, hb]
theorem down1_any (c b off m cap : Nat) (D : List Int) (x y : Int) (w : World) (hx : 0 ≤ x ∧ x < m) (hy : 0 ≤ y ∧ y < m) (h : LenAt c b off m cap D w) :
    Calls Try.prog 124 #[.int .i64 x, .int .i64 y, .pointer (some ⟨c, 0, none⟩)] w fun e w' => e = .returned (.int .i64 (wholeC D x y)) ∧ Drawn w w' := by
  obtain ⟨p, rfl⟩ : ∃ p : Nat, x = (p : Int) := ⟨x.toNat, by omega⟩
  obtain ⟨q, rfl⟩ : ∃ q : Nat, y = (q : Int) := ⟨y.toNat, by omega⟩
  obtain ⟨u, hu⟩ : ∃ u, D[p]? = some u := ⟨_, List.getElem?_eq_getElem (by have := h.len; omega)⟩
  obtain ⟨v, hv⟩ : ∃ v, D[q]? = some v := ⟨_, List.getElem?_eq_getElem (by have := h.len; omega)⟩
  have c1 := h.ptr
  have c2 := h.vals p u hu
  have c3 := h.vals q v hv
  have HV := Lib.hid (show cmpI v u = wholeC D p q from by unfold wholeC; simp only [Int.toNat_natCast, List.getD_eq_getElem?_getD, hu, hv, Option.getD_some])
  have h1 : (p : Int) < (m : Int) := hx.2
  have h2 : (q : Int) < (m : Int) := hy.2
  have h1n : p < m := by omega
  have h2n : q < m := by omega
  obtain ⟨z, hz⟩ : ∃ z, cmpI v u = z := ⟨_, rfl⟩
  have hc := Lib.hid (show ∀ w, Calls Try.prog 125 #[.int .i64 v, .int .i64 u] w fun e w' => e = .returned (.int .i64 z) ∧ w = w' from fun w => (cmpJ_any v u w).mono fun e w' h => ⟨by rw [h.1, hz], h.2.symm⟩)
  have HV2 := Lib.hid (hz.symm.trans HV.out)
  clear hu hv h hz hx hy
  go_enter Try.func124, Try.ntmps124
  go_wp2_with fail
  go_quiet ((go_at_call 125; first | exact quiet_left (hc.out _) | exact quiet_add_left (hc.out _)))
  go_wp2
  go_ret
  exact ⟨ret_int HV2.out, Drawn.drewN _ _⟩
set_option maxHeartbeats 1600000 in
theorem pFirst_bad (D : List Int) (size : Int) (a : Option Addr) (n cap : Nat) (w : World) (hn : n = D.length) (hmax : n ≤ 9223372036854775807) (hD : Vals w a (ints64 D)) (hb : packE D size ≠ 0) :
    Calls Try.prog 36 #[.slice a n cap, .int .i64 size] w fun e w' => e = .returned (.tuple #[.slice none 0 0, .int .i64 0, .int .i64 (packE D size)]) ∧ w' = w := by
  have C := Lib.hid (pCheck_any D size a n cap w hn hmax hD)
  obtain ⟨z, hz⟩ : ∃ z, packE D size = z := ⟨_, rfl⟩
  rw [hz] at C hb ⊢
  have hb2 : (z != 0) = true := by simpa using hb
  clear hD hn hz
  go_enter Try.func36, Try.ntmps36
  go_wp2_with (go_at_call 41; refine Calls.mono C.out ?_; rintro e w1 ⟨rfl, h1⟩; obtain rfl := h1.symm)
  go_ret3
  exact ⟨rfl, rfl⟩
def FitPost (n : Nat) (D : List Int) (size : Int) (os : List Int) (w : World) (e : Ending) (w' : World) : Prop :=
  ∃ v, e = .returned (.tuple #[v, .int .i64 ((ps n D size os).2 : Int), .int .i64 0]) ∧ IsVals w' v (ints64 (pin n 0 (ps n D size os))) ∧ Below w.heap.size w w'
set_option maxHeartbeats 1600000 in
theorem pFirst_good (D : List Int) (size : Int) (a : Option Addr) (n cap : Nat) (w : World) (hn : n = D.length) (hmax : n ≤ 9223372036854775807) (hD : Vals w a (ints64 D)) (hb : packE D size = 0) :
    Calls Try.prog 36 #[.slice a n cap, .int .i64 size] w fun e w' => FitPost n D size (upn n) w e w' := by
  obtain ⟨g1, g2, g3, g4⟩ := packE_good hb
  have h100 : n ≤ 100 := by omega
  have HN := Lib.hid hn
  have HD := Lib.hid hD
  have HO := Lib.hid g4
  have C : Hid (Calls Try.prog 41 #[.slice a n cap, .int .i64 size] w fun e w' => e = .returned (.int .i64 0) ∧ w' = w) := Lib.hid (by have := pCheck_any D size a n cap w hn hmax hD; rwa [hb] at this)
  clear hD hn hb g1 g4
  go_enter Try.func36, Try.ntmps36
  go_wp2_with (first
    | (go_at_call 41; refine Calls.mono C.out ?_; rintro e w1 ⟨rfl, h1⟩; obtain rfl := h1.symm)
    | (go_at_call 122; refine Calls.mono (pNumO_any n w (by omega)) ?_; rintro e w2 ⟨v, rfl, h1, h2, h3⟩; obtain ⟨a2, c2, rfl, h4⟩ := IsVals.own h1; rw [i64len, upn_length]; have HV2 := Lib.hid h4; have HB2 := Lib.hid h2; clear h1 h2 h3 h4)
    | (go_at_call 121; refine Calls.mono (first_any n n D (upn n) size a a2 cap c2 w2 HN.out h100 g2 g3 (HD.out.below HB2.out (Nat.le_refl _)) HO.out (upn_length n).symm HV2.out (fun o ho => upn_mem.1 ho) (upn_nodup n) h100) ?_; rintro e w3 ⟨v3, rfl, h5, h6⟩; have HV3 := Lib.hid h5; have HB3 := Lib.hid (HB2.out.trans (h6.mono HB2.out.size)); clear h5 h6))
  go_ret3
  exact ⟨v3, rfl, HV3.out, HB3.out⟩
set_option maxHeartbeats 1600000 in
theorem pDown_bad (D : List Int) (size : Int) (a : Option Addr) (n cap : Nat) (w : World) (hn : n = D.length) (hmax : n ≤ 9223372036854775807) (hD : Vals w a (ints64 D)) (hb : packE D size ≠ 0) :
    Calls Try.prog 37 #[.slice a n cap, .int .i64 size] w fun e w' => e = .returned (.tuple #[.slice none 0 0, .int .i64 0, .int .i64 (packE D size)]) ∧ Below w.heap.size w w' := by
  have HB0 := Lib.hid (show Below w.heap.size w (w.alloc (.cells #[.slice a n cap] 36)) from (Below.refl _ _).alloc (Nat.le_refl _) _)
  have C := Lib.hid (pCheck_any D size a n cap _ hn hmax (hD.below HB0.out (Nat.le_refl _)))
  obtain ⟨z, hz⟩ : ∃ z, packE D size = z := ⟨_, rfl⟩
  rw [hz] at C hb ⊢
  have hb2 : (z != 0) = true := by simpa using hb
  clear hD hn hz
  go_enter Try.func37, Try.ntmps37
  go_wp2_with (go_at_call 41; refine Calls.mono C.out ?_; rintro e w1 ⟨rfl, h1⟩; obtain rfl := h1.symm)
  go_ret3
  exact ⟨rfl, HB0.out⟩
def DownPost (n : Nat) (D : List Int) (size : Int) (w : World) (e : Ending) (w' : World) : Prop :=
  ∃ os v, e = .returned (.tuple #[v, .int .i64 ((ps n D size os).2 : Int), .int .i64 0]) ∧ IsVals w' v (ints64 (pin n 0 (ps n D size os))) ∧ os.Perm (upn n) ∧ Srtd (kD D) os ∧ Below w.heap.size w w'
/-- behind the row of numbers -/
structure BoxW (B g cp n cap : Nat) (a : Option Addr) (D : List Int) (w w2 : World) : Prop where
  srt : Srt g cp w2 (upn n) (upn n) w2
  cmp : CmpOk 124 (.pointer (some ⟨B, 0, none⟩)) (wholeC D) g w2 (upn n)
  ptr : ∀ W, Kept (fun k => k = g) w2 W → W.cell? ⟨B, 0, none⟩ = some (.slice a n cap) ∧ Below B w W ∧ B < W.heap.size
theorem BoxW.of {n cap : Nat} {a : Option Addr} {D : List Int} {w w2 : World} {v : Value} (hn : n = D.length) (hp : 0 < n) (hD : Vals w a (ints64 D)) (h1 : w2.ownsRow (w.heap.size + 1) 3 1 v n (ints64 (upn n))) (h2 : Below (w.heap.size + 1) (w.alloc (.cells #[.slice a n cap] 36)) w2) :
    ∃ g cp, v = .slice (some ⟨g, 0, none⟩) n cp ∧ BoxW w.heap.size g cp n cap a D w w2 := by
  obtain ⟨g, cp, rfl, hg, hl⟩ := h1.form hp
  have hb0 : Below w.heap.size w w2 := ((Below.refl w.heap.size w).alloc (Nat.le_refl _) _).trans (h2.mono (by omega))
  have key : ∀ W, Kept (fun k => k = g) w2 W → W.cell? ⟨w.heap.size, 0, none⟩ = some (.slice a n cap) ∧ Below w.heap.size w W ∧ w.heap.size < W.heap.size := by
    intro W hk
    have hsz : w.heap.size < w2.heap.size := by have := h2.size; simp at this; omega
    have e1 : W.heap[w.heap.size]? = w2.heap[w.heap.size]? := hk.block _ hsz (by omega)
    have e2 : w2.heap[w.heap.size]? = (w.alloc (.cells #[.slice a n cap] 36)).heap[w.heap.size]? := h2.block _ (by omega)
    refine ⟨?_, hb0.trans (hk.toBelow (by omega) (fun k hk => by omega)), by have := hk.size; omega⟩
    have e3 := heap_alloc_new w (.cells #[.slice a n cap] 36)
    rw [World.cell?, e1, e2, e3]; rfl
  refine ⟨g, cp, rfl, ⟨by rw [upn_length]; exact ownsRow_low h1 (Nat.zero_le _), Kept.refl _ _, List.Perm.refl _⟩, ?_, key⟩
  intro w3 hk x y hx hy
  have hx2 := upn_mem.1 hx
  have hy2 := upn_mem.1 hy
  obtain ⟨k1, k2, k3⟩ := key w3 hk
  obtain ⟨b, off, rfl, hb, hv⟩ := (hD.below k2 (Nat.le_refl _)) (by rw [i64len]; omega)
  exact down1_any w.heap.size b off n cap D x y w3 (by omega) (by omega) ⟨k1, hn, fun q x hq => hv q _ (by rw [ints64, List.getElem?_map, hq]; rfl)⟩
set_option maxRecDepth 20000 in
set_option maxHeartbeats 3200000 in
theorem pDown_good (D : List Int) (size : Int) (a : Option Addr) (n cap : Nat) (w : World) (hn : n = D.length) (hmax : n ≤ 9223372036854775807) (hD : Vals w a (ints64 D)) (hb : packE D size = 0) :
    Calls Try.prog 37 #[.slice a n cap, .int .i64 size] w fun e w' => DownPost n D size w e w' := by
  obtain ⟨g1, g2, g3, g4⟩ := packE_good hb
  have h100 : n ≤ 100 := by omega
  have HN := Lib.hid hn
  have HD := Lib.hid hD
  have HO := Lib.hid g4
  obtain ⟨W0, hW0⟩ : ∃ W, W = w.alloc (.cells #[.slice a n cap] 36) := ⟨_, rfl⟩
  have hs0 : W0.heap.size = w.heap.size + 1 := by rw [hW0]; simp
  have HB0 := Lib.hid (show Below w.heap.size w W0 from by rw [hW0]; exact (Below.refl _ _).alloc (Nat.le_refl _) _)
  have C : Hid (Calls Try.prog 41 #[.slice a n cap, .int .i64 size] W0 fun e w' => e = .returned (.int .i64 0) ∧ w' = W0) := Lib.hid (by have := pCheck_any D size a n cap W0 hn hmax (hD.below HB0.out (Nat.le_refl _)); rwa [hb] at this)
  have c0 : W0.cell? ⟨w.heap.size, 0, none⟩ = some (.slice a n cap) := by
    rw [hW0, World.cell?, heap_alloc_new w]; rfl
  have NC : Hid (Calls Try.prog 122 #[.int .i64 n] W0 fun e w' => ∃ v, e = .returned v ∧ w'.ownsRow (w.heap.size + 1) 3 1 v n (ints64 (upn n)) ∧ Below (w.heap.size + 1) W0 w' ∧ (n = 0 → v = .slice none 0 0)) := Lib.hid (by have := pNumO_any n W0 (by omega); rwa [hs0] at this)
  have HLW : Hid (0 < n → ∀ v w2, w2.ownsRow (w.heap.size + 1) 3 1 v n (ints64 (upn n)) → Below (w.heap.size + 1) W0 w2 → ∃ g cp, v = .slice (some ⟨g, 0, none⟩) n cp ∧ BoxW w.heap.size g cp n cap a D w w2) := Lib.hid (fun hp v w2 h1 h2 => BoxW.of hn hp hD h1 (by rw [← hW0]; exact h2))
  obtain ⟨B, hB⟩ : ∃ B, B = w.heap.size := ⟨_, rfl⟩
  rw [← hB] at c0 NC HLW
  have HBB := Lib.hid (Nat.le_of_eq hB.symm)
  have HBL := Lib.hid (show B < W0.heap.size from by omega)
  by_cases hn0 : n = 0
  · have hD0 : D = [] := List.eq_nil_of_length_eq_zero (by omega)
    clear hn hD g1 g4 hb
    subst hn0
    have HP0 : Hid (([] : List Int).Perm (upn 0)) := Lib.hid (List.Perm.refl _)
    have HSN := Lib.hid (fun cf w => sortS_nil cf w)
    go_enter Try.func37, Try.ntmps37
    go_upto_region 1 with fail
    rw [← hW0, ← hB]
    clear hW0 hB hs0
    go_wp2_with (first
      | (go_at_call 41; refine Calls.mono C.out ?_; rintro e w1 ⟨rfl, h1⟩; obtain rfl := h1.symm)
      | (go_at_call 122; refine Calls.mono NC.out ?_; rintro e w2 ⟨v, rfl, h1, h2, h3⟩; obtain rfl := h3 (by trivial); have HB2 := Lib.hid h2; have c2 := (h2.cell (p := ⟨B, 0, none⟩) (Nat.lt_succ_self B)).trans c0; have hB2 : B < w2.heap.size := Nat.lt_of_lt_of_le HBL.out h2.size; clear h1 h2 h3)
      | (go_at_call 123; refine Calls.mono (HSN.out _ _) ?_; rintro e w3 ⟨rfl, h1⟩; obtain rfl := h1.symm)
      | (go_at_call 121; refine Calls.mono (first_any 0 0 D [] size a none cap 0 _ HN.out h100 g2 g3 (HD.out.below (HB0.out.trans (HB2.out.mono (Nat.le_succ_of_le HBB.out))) (Nat.le_refl _)) HO.out rfl (Vals.nil _ _) (fun o ho => (by simp at ho)) List.nodup_nil h100) ?_; rintro e w3 ⟨v3, rfl, h5, h6⟩; have HV3 := Lib.hid h5; have HB3 := Lib.hid ((HB0.out.trans (HB2.out.mono (Nat.le_succ_of_le HBB.out))).trans (h6.mono (HB0.out.trans (HB2.out.mono (Nat.le_succ_of_le HBB.out))).size)); clear h5 h6))
    go_ret3
    exact ⟨[], v3, rfl, HV3.out, HP0.out, List.Pairwise.nil, HB3.out⟩
  · have hp : 0 < n := by omega
    clear hn hD g1 g4 hb hn0
    go_enter Try.func37, Try.ntmps37
    go_upto_region 1 with fail
    rw [← hW0, ← hB]
    clear hW0 hB hs0
    go_wp2_with (first
      | (go_at_call 41; refine Calls.mono C.out ?_; rintro e w1 ⟨rfl, h1⟩; obtain rfl := h1.symm)
      | (go_at_call 122; refine Calls.mono NC.out ?_; rintro e w2 ⟨v, rfl, h1, h2, h3⟩; obtain ⟨g, cp, rfl, hL⟩ := HLW.out hp v w2 h1 h2; have HL := Lib.hid hL; have c2 := (h2.cell (p := ⟨B, 0, none⟩) (Nat.lt_succ_self B)).trans c0; have hB2 : B < w2.heap.size := Nat.lt_of_lt_of_le HBL.out h2.size; clear h1 h2 h3 hL)
      | (go_at_call 123; refine Calls.mono (sortS_any 124 down_enters (.pointer (some ⟨B, 0, none⟩)) (wholeC D) (kD D) g cp w2 (upn n) n w2 HL.out.cmp (wholeC_by _ _) HL.out.srt (upn_asc n) (upn_length n) (by omega)) ?_; rintro e w3 ⟨rfl, L, h1, h2⟩; have HS3 := Lib.hid h1; have HR3 := Lib.hid h2; have HPT := Lib.hid (HL.out.ptr _ h1.kept); have c3 := HPT.out.1; have hB3 := HPT.out.2.2; have HLL := Lib.hid (show L.length = n from by rw [h1.perm.length_eq, upn_length]); have HV3 := Lib.hid h1.vals; clear h1 h2)
      | (go_at_call 121; refine Calls.mono (first_any n n D L size a (some ⟨g, 0, none⟩) cap cp _ HN.out h100 g2 g3 (HD.out.below (HPT.out.2.1.mono HBB.out) (Nat.le_refl _)) HO.out HLL.out.symm HV3.out (fun o ho => upn_mem.1 (HS3.out.perm.mem_iff.1 ho)) (HS3.out.perm.nodup_iff.2 (upn_nodup n)) h100) ?_; rintro e w4 ⟨v4, rfl, h5, h6⟩; have HV4 := Lib.hid h5; have HB4 := Lib.hid ((HPT.out.2.1.mono HBB.out).trans (h6.mono (HPT.out.2.1.mono HBB.out).size)); clear h5 h6))
    go_ret3
    exact ⟨L, v4, rfl, HV4.out, HS3.out.perm, HR3.out, HB4.out⟩
end Go.Proofs.Ytfjoakhcgpckgaa
