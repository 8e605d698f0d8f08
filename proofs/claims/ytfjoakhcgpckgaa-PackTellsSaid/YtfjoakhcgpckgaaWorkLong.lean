/- Contract: long jobs first. -/
import Derived.Test.YtfjoakhcgpckgaaWorkDo
namespace Go.Proofs.Ytfjoakhcgpckgaa
open Go.ChangeShapes Go.WideShapes Go.ChangeAt Go.RowKit
set_option linter.unusedVariables false
open Wk St
def LongPost (m n : Nat) (D : List Int) (w : World) (e : Ending) (w' : World) : Prop :=
  ∃ os v, e = .returned (.tuple #[v, .int .i64 (mx (gs m D os).1 m), .int .i64 0]) ∧ IsVals w' v (onV m n D os) ∧ os.Perm (upn n) ∧ Srtd (kD D) os ∧ Below w.heap.size w w'
/-- behind the row of numbers -/
structure LongW (B g cp n cap : Nat) (a : Option Addr) (D : List Int) (w w2 : World) : Prop where
  srt : Srt g cp w2 (upn n) (upn n) w2
  cmp : CmpOk 131 (.pointer (some ⟨B, 0, none⟩)) (wholeC D) g w2 (upn n)
  ptr : ∀ W, Kept (fun k => k = g) w2 W → W.cell? ⟨B, 0, none⟩ = some (.slice a n cap) ∧ Below B w W ∧ B < W.heap.size
theorem LongW.of {n cap : Nat} {a : Option Addr} {D : List Int} {w w2 : World} {v : Value} (hn : n = D.length) (hp : 0 < n) (hD : Vals w a (ints64 D)) (h1 : w2.ownsRow (w.heap.size + 1) 3 1 v n (ints64 (upn n))) (h2 : Below (w.heap.size + 1) (w.alloc (.cells #[.slice a n cap] 36)) w2) :
    ∃ g cp, v = .slice (some ⟨g, 0, none⟩) n cp ∧ LongW w.heap.size g cp n cap a D w w2 := by
  obtain ⟨g, cp, rfl, hg, hl⟩ := h1.form hp
  have hb0 : Below w.heap.size w w2 := ((Below.refl w.heap.size w).alloc (Nat.le_refl _) _).trans (h2.mono (by omega))
  have key : ∀ W, Kept (fun k => k = g) w2 W → W.cell? ⟨w.heap.size, 0, none⟩ = some (.slice a n cap) ∧ Below w.heap.size w W ∧ w.heap.size < W.heap.size := by
    intro W hk
    have hsz : w.heap.size < w2.heap.size := by have := h2.size; simp at this; omega
    have e1 : W.heap[w.heap.size]? = w2.heap[w.heap.size]? := hk.block _ hsz (by omega)
    have e2 : w2.heap[w.heap.size]? = (w.alloc (.cells #[.slice a n cap] 36)).heap[w.heap.size]? := h2.block _ (by omega)
    refine ⟨?_, hb0.trans (hk.toBelow (by omega) (fun k hk => by omega)), by have := hk.size; omega⟩
    have e3 := heap_alloc_new w (.cells #[.slice a n cap] 36)
    rw [World.cell?, e1, e2, e3]; rfl
  refine ⟨g, cp, rfl, ⟨by rw [upn_length]; exact ownsRow_low h1 (Nat.zero_le _), Kept.refl _ _, List.Perm.refl _⟩, ?_, key⟩
  intro w3 hk x y hx hy
  have hx2 := upn_mem.1 hx
  have hy2 := upn_mem.1 hy
  obtain ⟨k1, k2, k3⟩ := key w3 hk
  obtain ⟨b, off, rfl, hb, hv⟩ := (hD.below k2 (Nat.le_refl _)) (by rw [i64len]; omega)
  exact long1_any w.heap.size b off n cap D x y w3 (by omega) (by omega) ⟨k1, hn, fun q x hq => hv q _ (by rw [ints64, List.getElem?_map, hq]; rfl)⟩
theorem Srt.vals {g cp : Nat} {w0 : World} {L0 L : List Int} {w : World} (h : Srt g cp w0 L0 L w) : Vals w (some ⟨g, 0, none⟩) (ints64 L) := fun hp => ⟨g, 0, rfl, h.lt, fun i v hv => by
  rw [ints64, List.getElem?_map] at hv
  cases hx : L[i]? with
  | none => rw [hx] at hv; cases hv
  | some x =>
    rw [hx] at hv
    cases hv
    rw [Nat.zero_add]
    exact h.cell hx⟩
set_option maxRecDepth 20000 in
set_option maxHeartbeats 3200000 in
theorem wLong_good (m : Nat) (D : List Int) (a : Option Addr) (n cap : Nat) (w : World) (hn : n = D.length) (hmax : n ≤ 9223372036854775807) (hD : Vals w a (ints64 D)) (hb : workE m D = 0) :
    Calls Try.prog 48 #[.int .i64 m, .slice a n cap] w fun e w' => LongPost m n D w e w' := by
  obtain ⟨g1, g2, g3, g4⟩ := workE_good hb
  have hm : 0 < m := by omega
  have hm2 : m ≤ 20 := by omega
  have h60 : n ≤ 60 := by omega
  have HN := Lib.hid hn
  have HD := Lib.hid hD
  have HO := Lib.hid g4
  obtain ⟨W0, hW0⟩ : ∃ W, W = w.alloc (.cells #[.slice a n cap] 36) := ⟨_, rfl⟩
  have hs0 : W0.heap.size = w.heap.size + 1 := by rw [hW0]; simp
  have HB0 := Lib.hid (show Below w.heap.size w W0 from by rw [hW0]; exact (Below.refl _ _).alloc (Nat.le_refl _) _)
  have C : Hid (Calls Try.prog 128 #[.int .i64 m, .slice a n cap] W0 fun e w' => e = .returned (.int .i64 0) ∧ w' = W0) := Lib.hid (by have := wCheck_any m D a n cap W0 hn hmax (hD.below HB0.out (Nat.le_refl _)); rwa [hb] at this)
  have c0 : W0.cell? ⟨w.heap.size, 0, none⟩ = some (.slice a n cap) := by
    rw [hW0, World.cell?, heap_alloc_new w]; rfl
  have NC : Hid (Calls Try.prog 130 #[.int .i64 n] W0 fun e w' => ∃ v, e = .returned v ∧ w'.ownsRow (w.heap.size + 1) 3 1 v n (ints64 (upn n)) ∧ Below (w.heap.size + 1) W0 w' ∧ (n = 0 → v = .slice none 0 0)) := Lib.hid (by have := numO_any n W0 (by omega); rwa [hs0] at this)
  have HLW : Hid (0 < n → ∀ v w2, w2.ownsRow (w.heap.size + 1) 3 1 v n (ints64 (upn n)) → Below (w.heap.size + 1) W0 w2 → ∃ g cp, v = .slice (some ⟨g, 0, none⟩) n cp ∧ LongW w.heap.size g cp n cap a D w w2) := Lib.hid (fun hp v w2 h1 h2 => LongW.of hn hp hD h1 (by rw [← hW0]; exact h2))
  obtain ⟨B, hB⟩ : ∃ B, B = w.heap.size := ⟨_, rfl⟩
  rw [← hB] at c0 NC HLW
  have HBB := Lib.hid (Nat.le_of_eq hB.symm)
  have HBL := Lib.hid (show B < W0.heap.size from by omega)
  by_cases hn0 : n = 0
  · have hD0 : D = [] := List.eq_nil_of_length_eq_zero (by omega)
    clear hn hD g1 g2 g3 g4 hb
    subst hn0
    have HP0 : Hid (([] : List Int).Perm (upn 0)) := Lib.hid (List.Perm.refl _)
    have HSN := Lib.hid (fun cf w => sortS_nil cf w)
    go_enter Try.func48, Try.ntmps48
    go_upto_region 1 with fail
    rw [← hW0, ← hB]
    clear hW0 hB hs0
    go_wp2_with (first
      | (go_at_call 128; refine Calls.mono C.out ?_; rintro e w1 ⟨rfl, h1⟩; obtain rfl := h1.symm)
      | (go_at_call 130; refine Calls.mono NC.out ?_; rintro e w2 ⟨v, rfl, h1, h2, h3⟩; obtain rfl := h3 (by trivial); have HB2 := Lib.hid h2; have c2 := (h2.cell (p := ⟨B, 0, none⟩) (Nat.lt_succ_self B)).trans c0; have hB2 : B < w2.heap.size := Nat.lt_of_lt_of_le HBL.out h2.size; clear h1 h2 h3)
      | (go_at_call 123; refine Calls.mono (HSN.out _ _) ?_; rintro e w3 ⟨rfl, h1⟩; obtain rfl := h1.symm)
      | (go_at_call 129; refine Calls.mono (run_any m 0 0 D [] a none cap 0 _ hm hm2 HN.out h60 (HD.out.below (HB0.out.trans (HB2.out.mono (Nat.le_succ_of_le HBB.out))) (Nat.le_refl _)) HO.out rfl h60 (Vals.nil _ _) (fun o ho => (by simp at ho))) ?_; rintro e w3 ⟨v3, rfl, h5, h6⟩; have HV3 := Lib.hid h5; have HB3 := Lib.hid ((HB0.out.trans (HB2.out.mono (Nat.le_succ_of_le HBB.out))).trans (h6.mono (HB0.out.trans (HB2.out.mono (Nat.le_succ_of_le HBB.out))).size)); clear h5 h6))
    go_ret3
    exact ⟨[], v3, rfl, HV3.out, HP0.out, List.Pairwise.nil, HB3.out⟩
  · have hp : 0 < n := by omega
    clear hn hD g1 g2 g3 g4 hb hn0
    go_enter Try.func48, Try.ntmps48
    go_upto_region 1 with fail
    rw [← hW0, ← hB]
    clear hW0 hB hs0
    go_wp2_with (first
      | (go_at_call 128; refine Calls.mono C.out ?_; rintro e w1 ⟨rfl, h1⟩; obtain rfl := h1.symm)
      | (go_at_call 130; refine Calls.mono NC.out ?_; rintro e w2 ⟨v, rfl, h1, h2, h3⟩; obtain ⟨g, cp, rfl, hL⟩ := HLW.out hp v w2 h1 h2; have HL := Lib.hid hL; have c2 := (h2.cell (p := ⟨B, 0, none⟩) (Nat.lt_succ_self B)).trans c0; have hB2 : B < w2.heap.size := Nat.lt_of_lt_of_le HBL.out h2.size; clear h1 h2 h3 hL)
      | (go_at_call 123; refine Calls.mono (sortS_any 131 long_enters (.pointer (some ⟨B, 0, none⟩)) (wholeC D) (kD D) g cp w2 (upn n) n w2 HL.out.cmp (wholeC_by _ _) HL.out.srt (upn_asc n) (upn_length n) (by omega)) ?_; rintro e w3 ⟨rfl, L, h1, h2⟩; have HS3 := Lib.hid h1; have HR3 := Lib.hid h2; have HPT := Lib.hid (HL.out.ptr _ h1.kept); have c3 := HPT.out.1; have hB3 := HPT.out.2.2; have HLL := Lib.hid (show L.length = n from by rw [h1.perm.length_eq, upn_length]); have HV3 := Lib.hid h1.vals; clear h1 h2)
      | (go_at_call 129; refine Calls.mono (run_any m n n D L a (some ⟨g, 0, none⟩) cap cp _ hm hm2 HN.out h60 (HD.out.below (HPT.out.2.1.mono HBB.out) (Nat.le_refl _)) HO.out HLL.out.symm h60 HV3.out (fun o ho => upn_mem.1 (HS3.out.perm.mem_iff.1 ho))) ?_; rintro e w4 ⟨v4, rfl, h5, h6⟩; have HV4 := Lib.hid h5; have HB4 := Lib.hid ((HPT.out.2.1.mono HBB.out).trans (h6.mono (HPT.out.2.1.mono HBB.out).size)); clear h5 h6))
    go_ret3
    exact ⟨L, v4, rfl, HV4.out, HS3.out.perm, HR3.out, HB4.out⟩
end Go.Proofs.Ytfjoakhcgpckgaa
