/- Contracts: the span of jobs on their hands; the document's loads. -/
import Derived.Test.YtfjoakhcgpckgaaWorkLst
namespace Go.Proofs.Ytfjoakhcgpckgaa
open Go.ChangeShapes Go.WideShapes Go.ChangeAt Go.RowKit
set_option linter.unusedVariables false
open Wk St
def okO (m : Int) (o : Int) : Bool := decide (0 ≤ o ∧ o < m)
/-- are the hands right? -/
def handsOk (m : Int) (D O : List Int) : Bool := decide (O.length = D.length) && O.all (okO m)
/-- the loads behind q jobs -/
def spF (D O : List Int) (q : Nat) : Nat → Int := ldP (fun _ => 0) (((O.zip D).take q).map fun p => (p.1.toNat, p.2))
theorem spF_zero (D O : List Int) : spF D O 0 = fun _ => 0 := by simp [spF, ldP]
theorem spF_next {D O : List Int} {q : Nat} {o x : Int} (ho : O[q]? = some o) (hx : D[q]? = some x) : spF D O (q + 1) = put (spF D O q) o.toNat x := by
  have hz : (O.zip D)[q]? = some (o, x) := by
    rw [List.getElem?_zip_eq_some]; exact ⟨ho, hx⟩
  unfold spF
  rw [List.take_add_one, hz]
  simp only [Option.toList_some, List.map_append, List.map_cons, List.map_nil]
  rw [ldP_snoc]
theorem spF_bound {D O : List Int} (hD : ∀ x, x ∈ D → 0 ≤ x ∧ x ≤ 1000000000) (hl : D.length ≤ 60) (q i : Nat) : 0 ≤ spF D O q i ∧ spF D O q i ≤ 60000000000 := by
  have h := ldP_bound (c := 1000000000) (((O.zip D).take q).map fun p => (p.1.toNat, p.2)) (fun _ => 0) 0 (fun i => by omega) (fun p hp => by
    obtain ⟨z, hz, rfl⟩ := List.mem_map.1 hp
    exact hD _ (List.of_mem_zip (List.mem_of_mem_take hz)).2) (by omega) i
  have hlen : (((O.zip D).take q).map fun p => (p.1.toNat, p.2)).length ≤ 60 := by
    rw [List.length_map, List.length_take, List.length_zip]; omega
  unfold spF
  omega
theorem handsOk_len {m : Int} {D O : List Int} (h : O.length ≠ D.length) : handsOk m D O = false := by simp [handsOk, h]
theorem handsOk_bad {m : Int} {D O : List Int} {q : Nat} {o : Int} (ho : O[q]? = some o) (h : okO m o = false) : handsOk m D O = false := by
  have : O.all (okO m) = false := by
    cases hD : O.all (okO m) with
    | false => rfl
    | true => rw [List.all_eq_true.1 hD o (List.mem_of_getElem? ho)] at h; cases h
  simp [handsOk, this]
theorem handsOk_ok {m : Int} {D O : List Int} (hl : O.length = D.length) (h : ∀ o, o ∈ O → okO m o = true) : handsOk m D O = true := by
  simp only [handsOk, hl, decide_true, Bool.true_and]
  exact List.all_eq_true.2 h
theorem intAt {w : World} {a : Option Addr} {D : List Int} (h : Vals w a (ints64 D)) {q : Nat} {x : Int} (hq : D[q]? = some x) : ∃ b off, a = some ⟨b, off, none⟩ ∧ b < w.heap.size ∧ w.cell? ⟨b, off + q, none⟩ = some (.int .i64 x) := i64at h hq
def SpanPost (m : Nat) (D O : List Int) (w : World) (e : Ending) (w' : World) : Prop :=
  (if handsOk m D O = true then e = .returned (.tuple #[.int .i64 (mx (spF D O D.length) m), .int .i64 0]) else e = .returned (.tuple #[.int .i64 0, .int .i64 1])) ∧ Below w.heap.size w w'
theorem wSpan_badPost {m : Nat} {D O : List Int} {w w' : World} (h : handsOk m D O = false) (hB : Below w.heap.size w w') : SpanPost m D O w (.returned (.tuple #[.int .i64 0, .int .i64 1])) w' := ⟨by rw [h]; rfl, hB⟩
set_option maxRecDepth 20000 in
set_option maxHeartbeats 3200000 in
theorem wSpan_good (m : Nat) (D O : List Int) (a a3 : Option Addr) (n cap n3 cap3 : Nat) (w : World) (hn : n = D.length) (hmax : n ≤ 9223372036854775807) (hD : Vals w a (ints64 D)) (hn3 : n3 = O.length) (hO : Vals w a3 (ints64 O)) (hb : workE m D = 0) :
    Calls Try.prog 50 #[.int .i64 m, .slice a n cap, .slice a3 n3 cap3] w fun e w' => SpanPost m D O w e w' := by
  obtain ⟨g1, g2, g3, g4⟩ := workE_good hb
  have hm : 0 < m := by omega
  have hm2 : m ≤ 20 := by omega
  have h60 : n ≤ 60 := by omega
  have C : Hid (Calls Try.prog 128 #[.int .i64 m, .slice a n cap] w fun e w' => e = .returned (.int .i64 0) ∧ w' = w) := Lib.hid (by have := wCheck_any m D a n cap w hn hmax hD; rwa [hb] at this)
  have hmk := run_make_row' (P := Try.prog) 36 2 (.int .i64 0) 8 Try.underlying36 infoI64w rfl .i64 .i64 m (by omega) (by omega)
  obtain ⟨W1, hW1⟩ : ∃ W, W = w.alloc (.cells (madeCells #[.int .i64 0] m) 2) := ⟨_, rfl⟩
  obtain ⟨gl, hgl⟩ : ∃ g, g = w.heap.size := ⟨_, rfl⟩
  have HG := Lib.hid (Nat.le_of_eq hgl.symm)
  have HB1 : Hid (Below w.heap.size w W1) := Lib.hid (by rw [hW1]; exact (Below.refl _ _).alloc (Nat.le_refl _) _)
  have HR1 : Hid (RowF W1 gl m (spF D O 0)) := Lib.hid (by rw [hW1, hgl, spF_zero]; exact zrow m rfl)
  have HN := Lib.hid hn
  have HN3 := Lib.hid hn3
  have HD := Lib.hid hD
  have HO := Lib.hid hO
  have HOK := Lib.hid g4
  by_cases hl : n3 = n
  · have hlb : ((n3 : Int) != n) = false := by simp [hl]
    have HL := Lib.hid hl
    obtain rfl : n3 = n := hl
    clear hD hn hn3 hO hb g1 g2 g3 g4
    go_enter Try.func50, Try.ntmps50
    go_upto_region 7 with ((go_at_call 128; refine Calls.mono C.out ?_; rintro e w1 ⟨rfl, h1⟩; obtain rfl := h1.symm))
    rw [← hW1, ← hgl]
    clear hW1 hgl hmk
    go_wp2_with fail
    go_loopg [27] n3 (fun gk x wr => ∃ q : Nat, q + gk = n3 ∧ x = .int .i64 (q : Int) ∧ Hid (RowF wr gl m (spF D O q)) ∧ Hid (∀ o, o ∈ O.take q → okO m o = true) ∧ Hid (Below w.heap.size w wr))
    case atStart => exact ⟨0, by omega, rfl, HR1, Lib.hid (by simp), HB1⟩
    case round =>
      clear HR1 HB1
      obtain ⟨q, hq, rfl, HR, HA, HB⟩ := hrel
      by_cases hqn : q < n3
      · have hqn2 : (q : Int) < (n3 : Int) := by omega
        have hq0 : (0 : Int) ≤ (q : Int) := by omega
        obtain ⟨x, hx⟩ : ∃ x, D[q]? = some x := ⟨_, List.getElem?_eq_getElem (by have := HN.out; omega)⟩
        obtain ⟨o, ho⟩ : ∃ o, O[q]? = some o := ⟨_, List.getElem?_eq_getElem (by have := HN3.out; omega)⟩
        obtain ⟨b1, o1, rfl, hb1, d1⟩ := i64at (HD.out.below HB.out (Nat.le_refl _)) hx
        obtain ⟨b2, o2, rfl, hb2, d2⟩ := i64at (HO.out.below HB.out (Nat.le_refl _)) ho
        have HX := Lib.hid hx
        have HOO := Lib.hid ho
        by_cases hok : okO m o = true
        · have ho2 : 0 ≤ o ∧ o < m := by simpa [okO] using hok
          have HA2 : Hid (∀ o, o ∈ O.take (q + 1) → okO m o = true) := Lib.hid (fun y hy => by
            rw [List.take_add_one, HOO.out] at hy
            rcases List.mem_append.1 hy with h | h
            · exact HA.out y h
            · simp at h; rw [h]; exact hok)
          obtain ⟨k, rfl⟩ : ∃ k : Nat, o = (k : Int) := ⟨o.toNat, (Int.toNat_of_nonneg ho2.1).symm⟩
          have hkm : k < m := by omega
          have HF : Hid (spF D O (q + 1) = put (spF D O q) k x) := Lib.hid (by have := spF_next ho hx; simpa using this)
          have k0 := HR.out.at hkm
          have k1 := World.rowIs.frozen HR.out k
          have k3 := World.rowIs.lt HR.out
          obtain ⟨y, hy⟩ : ∃ y, spF D O q k = y := ⟨_, rfl⟩
          have hyb := spF_bound (O := O) HOK.out (by have := HN.out; omega) q k
          rw [hy] at k0 hyb
          have hxb := HOK.out x (List.mem_of_getElem? hx)
          have wy : IntKind.i64.wrap (y + x) = y + x := IntWalk.i64_in _ (by omega)
          have HR2 : Hid (RowF (wr.setCell ⟨gl, k, none⟩ (.int .i64 (y + x))).drew gl m (spF D O (q + 1))) := Lib.hid (by have h := RowF.put (w := wr) HR.out k x; rw [hy] at h; rw [HF.out]; exact h)
          have HB2 : Hid (Below w.heap.size w (wr.setCell ⟨gl, k, none⟩ (.int .i64 (y + x))).drew) := Lib.hid (HB.out.setCell (p := ⟨gl, k, none⟩) HG.out _).drew
          have e1 : decide ((k : Int) < 0) = false := by simp
          have e2 : decide ((m : Int) ≤ (k : Int)) = false := by simp; omega
          have e3 : (k : Int) < (m : Int) := by omega
          have e4 : (0 : Int) ≤ (k : Int) := by omega
          have e5 : ¬ (m : Int) ≤ (k : Int) := by omega
          clear hok hx ho hy
          go_wp2_with fail
          go_still_tail 10, (by kernel_rfl)
          change wpList _ _ _ _ _ wr.drew
          go_wp2_with fail
          go_roundg (gk - 1)
          case measure => omega
          case rel => exact ⟨q + 1, by omega, by simp, HR2, HA2, HB2⟩
        · have hok2 : okO m o = false := by simpa using hok
          have HV : Hid (SpanPost m D O w (.returned (.tuple #[.int .i64 0, .int .i64 1])) wr) := Lib.hid (wSpan_badPost (handsOk_bad ho hok2) HB.out)
          have ho2 : o < 0 ∨ m ≤ o := by
            unfold okO at hok2
            simp only [decide_eq_false_iff_not] at hok2
            omega
          clear hok hok2 hx ho
          by_cases ho0 : o < 0
          · have e1 : decide (o < 0) = true := by simp [ho0]
            go_wp2_with fail
            go_ret2
            exact HV.out
          · have e1 : decide (o < 0) = false := by simp only [ho0, decide_false]
            have e2 : decide ((m : Int) ≤ o) = true := by simp only [decide_eq_true_eq]; omega
            have e3 : (m : Int) ≤ o := by omega
            go_wp2_with fail
            go_ret2
            exact HV.out
      · obtain rfl : q = n3 := by omega
        have hqn2 : ¬ (q : Int) < (q : Int) := by omega
        have HH : Hid (handsOk m D O = true) := Lib.hid (handsOk_ok (by have h1 := HN.out; have h2 := HN3.out; omega) (fun o ho => HA.out o (by rw [List.take_of_length_le (by have := HN3.out; omega)]; exact ho)))
        have HMX := Lib.hid (max_any gl m m _ wr HR.out hm (by omega) (fun i _ => (spF_bound (O := O) HOK.out (by have := HN.out; omega) q i).1))
        have HV : Hid (SpanPost m D O w (.returned (.tuple #[.int .i64 (mx (spF D O q) m), .int .i64 0])) wr) := Lib.hid ⟨by rw [HH.out, HN.out]; rfl, HB.out⟩
        go_wp2_with (go_at_call 55; refine Calls.mono HMX.out ?_; rintro e w3 ⟨rfl, hw3⟩; obtain rfl := hw3.symm)
        go_ret2
        exact HV.out
  · have hlb : ((n3 : Int) != n) = true := by simp; omega
    have HV : Hid (∀ W, Below w.heap.size w W → SpanPost m D O w (.returned (.tuple #[.int .i64 0, .int .i64 1])) W) := Lib.hid (fun W h => wSpan_badPost (handsOk_len (by omega)) h)
    have HV0 := Lib.hid (HV.out w (Below.refl _ _))
    have HV1 := Lib.hid (HV.out W1 HB1.out)
    clear hD hn hn3 hO hb g1 g2 g3 g4 hl
    go_enter Try.func50, Try.ntmps50
    go_wp2_with ((go_at_call 128; refine Calls.mono C.out ?_; rintro e w1 ⟨rfl, h1⟩; obtain rfl := h1.symm))
    go_ret2
    exact HV0.out
def LoadsPost (m : Nat) (D O : List Int) (w : World) (e : Ending) (w' : World) : Prop :=
  (if handsOk m D O = true then ∃ g, e = .returned (.tuple #[.slice (some ⟨g, 0, none⟩) m m, .bool true]) ∧ RowF w' g m (spF D O D.length) else e = .returned (.tuple #[.slice none 0 0, .bool false])) ∧ Below w.heap.size w w'
theorem wLoads_badPost {m : Nat} {D O : List Int} {w w' : World} (h : handsOk m D O = false) (hB : Below w.heap.size w w') : LoadsPost m D O w (.returned (.tuple #[.slice none 0 0, .bool false])) w' := ⟨by rw [h]; rfl, hB⟩
set_option maxRecDepth 20000 in
set_option maxHeartbeats 3200000 in
theorem wLoads_good (m : Nat) (D O : List Int) (a a3 : Option Addr) (n cap n3 cap3 : Nat) (w : World) (hn : n = D.length) (hmax : n ≤ 9223372036854775807) (hD : Vals w a (ints64 D)) (hn3 : n3 = O.length) (hO : Vals w a3 (ints64 O)) (hb : workE m D = 0) :
    Calls Try.prog 54 #[.int .i64 m, .slice a n cap, .slice a3 n3 cap3] w fun e w' => LoadsPost m D O w e w' := by
  obtain ⟨g1, g2, g3, g4⟩ := workE_good hb
  have hm : 0 < m := by omega
  have hm2 : m ≤ 20 := by omega
  have h60 : n ≤ 60 := by omega
  have hmk := run_make_row' (P := Try.prog) 36 2 (.int .i64 0) 8 Try.underlying36 infoI64w rfl .i64 .i64 m (by omega) (by omega)
  obtain ⟨W1, hW1⟩ : ∃ W, W = w.alloc (.cells (madeCells #[.int .i64 0] m) 2) := ⟨_, rfl⟩
  obtain ⟨gl, hgl⟩ : ∃ g, g = w.heap.size := ⟨_, rfl⟩
  have HG := Lib.hid (Nat.le_of_eq hgl.symm)
  have HB1 : Hid (Below w.heap.size w W1) := Lib.hid (by rw [hW1]; exact (Below.refl _ _).alloc (Nat.le_refl _) _)
  have HR1 : Hid (RowF W1 gl m (spF D O 0)) := Lib.hid (by rw [hW1, hgl, spF_zero]; exact zrow m rfl)
  have HN := Lib.hid hn
  have HN3 := Lib.hid hn3
  have HD := Lib.hid hD
  have HO := Lib.hid hO
  have HOK := Lib.hid g4
  by_cases hl : n3 = n
  · have hlb : ((n3 : Int) != n) = false := by simp [hl]
    have HL := Lib.hid hl
    obtain rfl : n3 = n := hl
    clear hD hn hn3 hO hb g1 g2 g3 g4
    go_enter Try.func54, Try.ntmps54
    go_upto_region 2 with (fail)
    rw [← hW1, ← hgl]
    clear hW1 hgl hmk
    go_wp2_with fail
    go_loopg [20] n3 (fun gk x wr => ∃ q : Nat, q + gk = n3 ∧ x = .int .i64 (q : Int) ∧ Hid (RowF wr gl m (spF D O q)) ∧ Hid (∀ o, o ∈ O.take q → okO m o = true) ∧ Hid (Below w.heap.size w wr))
    case atStart => exact ⟨0, by omega, rfl, HR1, Lib.hid (by simp), HB1⟩
    case round =>
      clear HR1 HB1
      obtain ⟨q, hq, rfl, HR, HA, HB⟩ := hrel
      by_cases hqn : q < n3
      · have hqn2 : (q : Int) < (n3 : Int) := by omega
        have hq0 : (0 : Int) ≤ (q : Int) := by omega
        obtain ⟨x, hx⟩ : ∃ x, D[q]? = some x := ⟨_, List.getElem?_eq_getElem (by have := HN.out; omega)⟩
        obtain ⟨o, ho⟩ : ∃ o, O[q]? = some o := ⟨_, List.getElem?_eq_getElem (by have := HN3.out; omega)⟩
        obtain ⟨b1, o1, rfl, hb1, d1⟩ := i64at (HD.out.below HB.out (Nat.le_refl _)) hx
        obtain ⟨b2, o2, rfl, hb2, d2⟩ := i64at (HO.out.below HB.out (Nat.le_refl _)) ho
        have HX := Lib.hid hx
        have HOO := Lib.hid ho
        by_cases hok : okO m o = true
        · have ho2 : 0 ≤ o ∧ o < m := by simpa [okO] using hok
          have HA2 : Hid (∀ o, o ∈ O.take (q + 1) → okO m o = true) := Lib.hid (fun y hy => by
            rw [List.take_add_one, HOO.out] at hy
            rcases List.mem_append.1 hy with h | h
            · exact HA.out y h
            · simp at h; rw [h]; exact hok)
          obtain ⟨k, rfl⟩ : ∃ k : Nat, o = (k : Int) := ⟨o.toNat, (Int.toNat_of_nonneg ho2.1).symm⟩
          have hkm : k < m := by omega
          have HF : Hid (spF D O (q + 1) = put (spF D O q) k x) := Lib.hid (by have := spF_next ho hx; simpa using this)
          have k0 := HR.out.at hkm
          have k1 := World.rowIs.frozen HR.out k
          have k3 := World.rowIs.lt HR.out
          obtain ⟨y, hy⟩ : ∃ y, spF D O q k = y := ⟨_, rfl⟩
          have hyb := spF_bound (O := O) HOK.out (by have := HN.out; omega) q k
          rw [hy] at k0 hyb
          have hxb := HOK.out x (List.mem_of_getElem? hx)
          have wy : IntKind.i64.wrap (y + x) = y + x := IntWalk.i64_in _ (by omega)
          have HR2 : Hid (RowF (wr.setCell ⟨gl, k, none⟩ (.int .i64 (y + x))).drew gl m (spF D O (q + 1))) := Lib.hid (by have h := RowF.put (w := wr) HR.out k x; rw [hy] at h; rw [HF.out]; exact h)
          have HB2 : Hid (Below w.heap.size w (wr.setCell ⟨gl, k, none⟩ (.int .i64 (y + x))).drew) := Lib.hid (HB.out.setCell (p := ⟨gl, k, none⟩) HG.out _).drew
          have e1 : decide ((k : Int) < 0) = false := by simp
          have e2 : decide ((m : Int) ≤ (k : Int)) = false := by simp; omega
          have e3 : (k : Int) < (m : Int) := by omega
          have e4 : (0 : Int) ≤ (k : Int) := by omega
          have e5 : ¬ (m : Int) ≤ (k : Int) := by omega
          clear hok hx ho hy
          go_wp2_with fail
          go_still_tail 10, (by kernel_rfl)
          change wpList _ _ _ _ _ wr.drew
          go_wp2_with fail
          go_roundg (gk - 1)
          case measure => omega
          case rel => exact ⟨q + 1, by omega, by simp, HR2, HA2, HB2⟩
        · have hok2 : okO m o = false := by simpa using hok
          have HV : Hid (LoadsPost m D O w (.returned (.tuple #[.slice none 0 0, .bool false])) wr) := Lib.hid (wLoads_badPost (handsOk_bad ho hok2) HB.out)
          have ho2 : o < 0 ∨ m ≤ o := by
            unfold okO at hok2
            simp only [decide_eq_false_iff_not] at hok2
            omega
          clear hok hok2 hx ho
          by_cases ho0 : o < 0
          · have e1 : decide (o < 0) = true := by simp [ho0]
            go_wp2_with fail
            go_ret2
            exact HV.out
          · have e1 : decide (o < 0) = false := by simp only [ho0, decide_false]
            have e2 : decide ((m : Int) ≤ o) = true := by simp only [decide_eq_true_eq]; omega
            have e3 : (m : Int) ≤ o := by omega
            go_wp2_with fail
            go_ret2
            exact HV.out
      · obtain rfl : q = n3 := by omega
        have hqn2 : ¬ (q : Int) < (q : Int) := by omega
        have HH : Hid (handsOk m D O = true) := Lib.hid (handsOk_ok (by have h1 := HN.out; have h2 := HN3.out; omega) (fun o ho => HA.out o (by rw [List.take_of_length_le (by have := HN3.out; omega)]; exact ho)))
        have HV : Hid (LoadsPost m D O w (.returned (.tuple #[.slice (some ⟨gl, 0, none⟩) m m, .bool true])) wr) := Lib.hid ⟨by rw [HH.out]; exact ⟨gl, rfl, by have h := HR.out; rwa [HN.out] at h⟩, HB.out⟩
        go_wp2_with fail
        go_ret2
        exact HV.out
  · have hlb : ((n3 : Int) != n) = true := by simp; omega
    have HV : Hid (∀ W, Below w.heap.size w W → LoadsPost m D O w (.returned (.tuple #[.slice none 0 0, .bool false])) W) := Lib.hid (fun W h => wLoads_badPost (handsOk_len (by omega)) h)
    have HV0 := Lib.hid (HV.out w (Below.refl _ _))
    have HV1 := Lib.hid (HV.out W1 HB1.out)
    clear hD hn hn3 hO hb g1 g2 g3 g4 hl
    go_enter Try.func54, Try.ntmps54
    go_upto_region 2 with fail
    rw [← hW1, ← hgl]
    clear hW1 hgl hmk
    go_wp2_with fail
    go_ret2
    exact HV1.out
set_option maxHeartbeats 1600000 in
theorem wSpan_bad (m : Int) (D : List Int) (a a3 : Option Addr) (n cap n3 cap3 : Nat) (w : World) (hn : n = D.length) (hmax : n ≤ 9223372036854775807) (hD : Vals w a (ints64 D)) (hb : workE m D ≠ 0) :
    Calls Try.prog 50 #[.int .i64 m, .slice a n cap, .slice a3 n3 cap3] w fun e w' => e = .returned (.tuple #[.int .i64 0, .int .i64 (workE m D)]) ∧ w' = w := by
  have C := Lib.hid (wCheck_any m D a n cap w hn hmax hD)
  obtain ⟨z, hz⟩ : ∃ z, workE m D = z := ⟨_, rfl⟩
  rw [hz] at C hb ⊢
  have hb2 : (z != 0) = true := by simpa using hb
  clear hD hn hz
  go_enter Try.func50, Try.ntmps50
  go_wp2_with (go_at_call 128; refine Calls.mono C.out ?_; rintro e w1 ⟨rfl, h1⟩; obtain rfl := h1.symm)
  go_ret2
  exact ⟨rfl, rfl⟩
end Go.Proofs.Ytfjoakhcgpckgaa
