/- Contract: the norm of an ask. -/
import Derived.Test.YtkelkpfjkjcmgaaDoorAskP
namespace Go.Proofs.YtkelkpfjkjcmgaaDoor
open Go.ChangeShapes Go.WideShapes Go.ChangeAt Go.RowKit
set_option linter.unusedVariables false
open Tp
namespace Ask
mutual
/-- the norm of an ask, or of what it is not -/
def nrm : Bool → Ask → Ask
  | q, mk k a b n l => if k = 4 then (nrms (!q) l).getD 0 (mk k a b n l) else if k = 5 ∨ k = 6 then mk (if q then 11 - k else k) [] [] 0 (nrms q l) else if q then mk 4 [] [] 0 [mk k a b n l] else mk k a b n l
def nrms : Bool → List Ask → List Ask
  | _, [] => []
  | q, x :: l => nrm q x :: nrms q l
end
theorem nrms_at {q : Bool} {l : List Ask} {i : Nat} {x : Ask} (h : l[i]? = some x) (z : Ask) : (nrms q l).getD i z = nrm q x := by
  induction l generalizing i with
  | nil => simp at h
  | cons y l ih =>
    rw [nrms]
    cases i with
    | zero => simp at h; subst h; rfl
    | succ i => simpa using ih (i := i) (by simpa using h)
end Ask
/-- an ask's value, its parts named -/
theorem AskV.form {w : World} {x : Ask} {v : Value} (h : AskV w x v) : ∃ (k0 : Int) (k1 k2 : ByteArray) (k3 : Int) (ad : Option Addr) (len cap : Nat), v = .agg #[.int .i64 k0, .string k1, .string k2, .int .i64 k3, .slice ad len cap] := by
  cases x with
  | mk k a b n l =>
  rw [AskV] at h
  obtain ⟨ad, len, cap, e, _⟩ := h
  exact ⟨_, _, _, _, _, _, _, e⟩
theorem cell_top (W : World) (c : Array Value) (T : TypeId) (b i : Nat) (hb : b = W.heap.size) : (W.alloc (.cells c T)).cell? ⟨b, i, none⟩ = c[i]? := by
  subst hb
  simp
/-- five cells of a block, written -/
def five (W : World) (c : Nat) (v0 v1 v2 v3 v4 : Value) : World := ((((W.setCell ⟨c, 0, none⟩ v0).setCell ⟨c, 1, none⟩ v1).setCell ⟨c, 2, none⟩ v2).setCell ⟨c, 3, none⟩ v3).setCell ⟨c, 4, none⟩ v4
theorem five_heap (W : World) (c : Nat) (v0 v1 v2 v3 v4 : Value) (b : Nat) (h : b ≠ c) : (five W c v0 v1 v2 v3 v4).heap[b]? = W.heap[b]? := by
  unfold five
  rw [Below.heap_setCell _ _ _ _ h, Below.heap_setCell _ _ _ _ h, Below.heap_setCell _ _ _ _ h, Below.heap_setCell _ _ _ _ h, Below.heap_setCell _ _ _ _ h]
theorem five_size (W : World) (c : Nat) (v0 v1 v2 v3 v4 : Value) : (five W c v0 v1 v2 v3 v4).heap.size = W.heap.size := by unfold five; simp
theorem five_below {B : Nat} {w W : World} (h : Below B w W) (c : Nat) (v0 v1 v2 v3 v4 : Value) (hB : B ≤ c) : Below B w (five W c v0 v1 v2 v3 v4) :=
  ((((h.setCell (p := ⟨c, 0, none⟩) hB _).setCell (p := ⟨c, 1, none⟩) hB _).setCell (p := ⟨c, 2, none⟩) hB _).setCell (p := ⟨c, 3, none⟩) hB _).setCell (p := ⟨c, 4, none⟩) hB _
theorem frozen_top (W : World) (c : Array Value) (T : TypeId) (b i : Nat) (hb : b = W.heap.size) : (W.alloc (.cells c T)).frozen? ⟨b, i, none⟩ = false := by
  subst hb
  have := heap_alloc_new W (.cells c T)
  unfold World.frozen?
  simp only [this]
  rfl
def NrmQ (A : Nat) (w : World) (x : Ask) (e : Ending) (w' : World) : Prop := ∃ (k0 : Int) (k1 k2 : ByteArray) (k3 : Int) (ad : Option Addr) (len cap : Nat), e = .returned (.agg #[.int .i64 k0, .string k1, .string k2, .int .i64 k3, .slice ad len cap]) ∧ AskVP (fun b => b < A ∨ w.heap.size ≤ b) w' x (.agg #[.int .i64 k0, .string k1, .string k2, .int .i64 k3, .slice ad len cap]) ∧ Below w.heap.size w w'
theorem AsksVP.get' {p : Nat → Prop} {w : World} {l : List Ask} {b off i : Nat} {x : Ask} (h : AsksVP p w l b off) (hx : l[i]? = some x) : ∃ (k0 : Int) (k1 k2 : ByteArray) (k3 : Int) (ad : Option Addr) (len cap : Nat), w.cell? ⟨b, off + i * 5, none⟩ = some (.int .i64 k0) ∧ w.cell? ⟨b, off + i * 5 + 1, none⟩ = some (.string k1) ∧ w.cell? ⟨b, off + i * 5 + 2, none⟩ = some (.string k2) ∧ w.cell? ⟨b, off + i * 5 + 3, none⟩ = some (.int .i64 k3) ∧ w.cell? ⟨b, off + i * 5 + 4, none⟩ = some (.slice ad len cap) ∧ AskVP p w x (.agg #[.int .i64 k0, .string k1, .string k2, .int .i64 k3, .slice ad len cap]) := by
  obtain ⟨v, ⟨c0, c1, c2, c3, c4, e, h0, h1, h2, h3, h4⟩, hv⟩ := h.at' hx
  obtain ⟨k0, k1, k2, k3, ad, len, cap, e2⟩ := AskV.form (AskVP.toV _ _ hv)
  rw [e] at e2
  simp only [Value.agg.injEq, Array.mk.injEq, List.cons.injEq, and_true] at e2
  obtain ⟨rfl, rfl, rfl, rfl, rfl⟩ := e2
  exact ⟨k0, k1, k2, k3, ad, len, cap, h0, h1, h2, h3, h4, e ▸ hv⟩
set_option maxHeartbeats 4000000 in
theorem two_end {A : Nat} {w w1 w2 : World} {S0 cx : Nat} {Y Z : Ask} {x0 x3 y0 y3 : Int} {x1 x2 y1 y2 : ByteArray} {xd yd : Option Addr} {xl xc yl yc : Nat} (k' : Int) (hBw : Below w.heap.size w w2) (hb2 : Below w1.heap.size w1 w2) (hS : S0 ≤ w1.heap.size) (hc : cx + 2 ≤ S0) (hcw : cx = w.heap.size) (hA : A ≤ w.heap.size)
    (HX : AskVP (fun b => b < A ∨ S0 ≤ b) w1 Y (.agg #[.int .i64 x0, .string x1, .string x2, .int .i64 x3, .slice xd xl xc])) (HZ : AskVP (fun b => b < A ∨ w1.heap.size ≤ b) w2 Z (.agg #[.int .i64 y0, .string y1, .string y2, .int .i64 y3, .slice yd yl yc])) :
    NrmQ A w (.mk k' [] [] 0 [Y, Z]) (.returned (.agg #[.int .i64 k', .string ⟨#[]⟩, .string ⟨#[]⟩, .int .i64 0, .slice (some ⟨w2.heap.size, 0, none⟩) 2 2]))
      ((five w2 (cx + 1) (.int .i64 k') (.string ⟨#[]⟩) (.string ⟨#[]⟩) (.int .i64 0) (.slice (some ⟨w2.heap.size, 0, none⟩) 2 2)).alloc (.cells #[.int .i64 x0, .string x1, .string x2, .int .i64 x3, .slice xd xl xc, .int .i64 y0, .string y1, .string y2, .int .i64 y3, .slice yd yl yc] 24)) := by
  obtain ⟨F, hF⟩ : ∃ F, F = five w2 (cx + 1) (.int .i64 k') (.string ⟨#[]⟩) (.string ⟨#[]⟩) (.int .i64 0) (.slice (some ⟨w2.heap.size, 0, none⟩) 2 2) := ⟨_, rfl⟩
  have hsz : F.heap.size = w2.heap.size := by rw [hF, five_size]
  have hFb : Below w.heap.size w F := by rw [hF]; exact five_below hBw _ _ _ _ _ _ (by omega)
  have hFh : ∀ b, b ≠ cx + 1 → F.heap[b]? = w2.heap[b]? := fun b hb => by rw [hF]; exact five_heap _ _ _ _ _ _ _ b hb
  rw [← hF]
  have h12 := hb2.size
  have hws := hBw.size
  have hG : ∀ (o : Obj) b, b ≠ cx + 1 → b < w2.heap.size → (F.alloc o).heap[b]? = w2.heap[b]? := fun o b h1 h2 => (Below.heap_alloc F o b (by omega)).trans (hFh b h1)
  refine ⟨_, _, _, _, _, _, _, rfl, ?_, hFb.alloc (by omega) _⟩
  rw [AskVP]
  refine ⟨_, _, _, rfl, rfl, Nat.le_refl _, by omega, by simp, by simp, fun _ => ⟨_, _, rfl, by simp; omega, .inr (by omega), ?_⟩⟩
  rw [AsksVP, AsksVP, AsksVP]
  refine ⟨⟨_, ⟨_, _, _, _, _, rfl, (cell_top _ _ _ _ _ hsz.symm).trans rfl, (cell_top _ _ _ _ _ hsz.symm).trans rfl, (cell_top _ _ _ _ _ hsz.symm).trans rfl, (cell_top _ _ _ _ _ hsz.symm).trans rfl, (cell_top _ _ _ _ _ hsz.symm).trans rfl⟩, ?_⟩, ⟨_, ⟨_, _, _, _, _, rfl, (cell_top _ _ _ _ _ hsz.symm).trans rfl, (cell_top _ _ _ _ _ hsz.symm).trans rfl, (cell_top _ _ _ _ _ hsz.symm).trans rfl, (cell_top _ _ _ _ _ hsz.symm).trans rfl, (cell_top _ _ _ _ _ hsz.symm).trans rfl⟩, ?_⟩, trivial⟩
  · refine AskVP.stays (fun b h => ?_) (by simp; omega) (fun b h hlt => (hG _ b ?_ (by omega)).trans (hb2.block b hlt)) _ _ HX
    · rcases h with h | h
      · exact .inl h
      · exact .inr (by omega)
    · rcases h with h | h <;> omega
  · refine AskVP.stays (fun b h => ?_) (by simp; omega) (fun b h hlt => hG _ b ?_ hlt) _ _ HZ
    · rcases h with h | h
      · exact .inl h
      · exact .inr (by omega)
    · rcases h with h | h <;> omega
set_option maxRecDepth 20000 in
set_option maxHeartbeats 64000000 in
theorem norm_all : ∀ (N : Nat) (x : Ask) (q : Bool) (v : Value) (w : World) (A : Nat), x.size ≤ N → x.err = 0 → A ≤ w.heap.size → AskVP (fun b => b < A) w x v → Calls Tryd.prog 20 #[v, .bool q] w (NrmQ A w (x.nrm q)) := by
  intro N
  induction N with
  | zero => intro x q v w A h; have := Ask.one_le x; omega
  | succ N ih =>
    intro x q v w A hN herr hA hx
    have HIH := Lib.hid ih
    have hx2 := hx
    cases x with
    | mk k ka va nu l =>
    rw [AskVP] at hx
    obtain ⟨ad, n, cap, rfl, hn, hcap, hmax, u1, u2, hrow⟩ := hx
    obtain ⟨hb0, hes⟩ := Ask.err_zero herr
    obtain ⟨hk1, hk6, hlen, hrest⟩ := Ask.bad_zero hb0
    rw [Ask.size] at hN
    rw [← hn] at hlen
    have HLEN := Lib.hid hlen
    have HN := Lib.hid hn
    have HR := Lib.hid hrow
    have HES := Lib.hid hes
    obtain ⟨V, hV⟩ : ∃ V, (Ask.mk k ka va nu l).nrm q = V := ⟨_, rfl⟩
    have HV := Lib.hid hV
    rw [hV]
    have HX2 := Lib.hid hx2
    obtain ⟨a1, ha1⟩ : ∃ a, bts ka = a := ⟨_, rfl⟩
    obtain ⟨a2, ha2⟩ : ∃ a, bts va = a := ⟨_, rfl⟩
    rw [ha1, ha2] at HX2 ⊢
    clear ih herr hx2 hn hrow hb0 hes hV ha1 ha2 u1 u2 hlen hrest hcap hmax
    obtain ⟨W0, hW0⟩ : ∃ W, W = (w.alloc (.cells #[.int .i64 k, .string a1, .string a2, .int .i64 nu, .slice ad n cap] 24)).alloc (.cells #[.int .i64 0, .string ⟨#[]⟩, .string ⟨#[]⟩, .int .i64 0, .slice none 0 0] 24) := ⟨_, rfl⟩
    have hb9 : Below w.heap.size w W0 := by rw [hW0]; exact ((Below.refl _ _).alloc (Nat.le_refl _) _).alloc (by simp) _
    have HB9 := Lib.hid hb9
    have hsz : W0.heap.size = w.heap.size + 2 := by rw [hW0]; simp
    have d0 : W0.cell? ⟨w.heap.size, 0, none⟩ = some (.int .i64 k) := by rw [hW0]; simp
    have d1 : W0.cell? ⟨w.heap.size, 1, none⟩ = some (.string a1) := by rw [hW0]; simp
    have d2 : W0.cell? ⟨w.heap.size, 2, none⟩ = some (.string a2) := by rw [hW0]; simp
    have d3 : W0.cell? ⟨w.heap.size, 3, none⟩ = some (.int .i64 nu) := by rw [hW0]; simp
    have d4 : W0.cell? ⟨w.heap.size, 4, none⟩ = some (.slice ad n cap) := by rw [hW0]; simp
    by_cases h3 : k ≤ 3
    · have e4 : (k == 4) = false := by simp; omega
      have e5 : (k == 5) = false := by simp; omega
      have e6 : (k == 6) = false := by simp; omega
      cases q with
      | false =>
        have HVV : Hid (V = Ask.mk k ka va nu l) := Lib.hid (by rw [← HV.out, Ask.nrm, if_neg (by omega), if_neg (by omega)]; rfl)
        clear h3
        go_enter Tryd.func20, Tryd.ntmps20
        go_wp2_with fail
        refine bodyPost_ret (v := .agg #[.int .i64 k, .string a1, .string a2, .int .i64 nu, .slice ad n cap]) (by simp [results, Tryd.results20, go_sem]) rfl ⟨k, a1, a2, nu, ad, n, cap, rfl, ?_, by go_grown⟩
        rw [HVV.out]
        refine AskVP.stays (fun b h => .inl h) ?_ (fun b h _ => Below.block (B := w.heap.size) (by go_grown) b (by omega)) _ _ HX2.out
        simp; omega
      | true =>
        have HVV : Hid (V = Ask.mk 4 [] [] 0 [Ask.mk k ka va nu l]) := Lib.hid (by rw [← HV.out, Ask.nrm, if_neg (by omega), if_neg (by omega)]; rfl)
        clear h3
        go_enter Tryd.func20, Tryd.ntmps20
        go_wp2_with fail
        refine bodyPost_ret (v := .agg #[.int .i64 4, .string ⟨#[]⟩, .string ⟨#[]⟩, .int .i64 0, .slice (some ⟨w.heap.size + 1 + 1, 0, none⟩) 1 1]) (by simp [results, Tryd.results20, go_sem]) rfl ⟨_, _, _, _, _, _, _, rfl, ?_, by go_grown⟩
        rw [HVV.out, AskVP]
        refine ⟨_, _, _, rfl, rfl, Nat.le_refl _, by omega, by simp, by simp, fun _ => ⟨_, _, rfl, by simp, .inr (by omega), ?_⟩⟩
        rw [AsksVP, AsksVP]
        refine ⟨⟨.agg #[.int .i64 k, .string a1, .string a2, .int .i64 nu, .slice ad n cap], ⟨_, _, _, _, _, rfl, (cell_top _ _ _ _ _ (by simp)).trans rfl, (cell_top _ _ _ _ _ (by simp)).trans rfl, (cell_top _ _ _ _ _ (by simp)).trans rfl, (cell_top _ _ _ _ _ (by simp)).trans rfl, (cell_top _ _ _ _ _ (by simp)).trans rfl⟩, ?_⟩, trivial⟩
        refine AskVP.stays (fun b h => .inl h) ?_ (fun b h _ => Below.block (B := w.heap.size) (by go_grown) b (by omega)) _ _ HX2.out
        simp; omega
    have hn0 : 0 < n := by rw [HLEN.out]; unfold Ask.inner; split <;> (try split) <;> omega
    obtain ⟨y, hy⟩ : ∃ y, l[0]? = some y := ⟨_, List.getElem?_eq_getElem (by rw [← HN.out]; exact hn0)⟩
    obtain ⟨bl, off, rfl, hb, hbA, hat⟩ := HR.out hn0
    have hy1 := Ask.sizes_at hy
    have HY0 := Lib.hid (Ask.errs_at HES.out hy)
    have HNY := Lib.hid (fun q => Ask.nrms_at (q := q) hy (Ask.mk k ka va nu l))
    have hat0 := AsksVP.stays (q := fun b => b < A) (fun b h => h) hb9.size (fun b h _ => hb9.block b (by omega)) l bl off hbA hb hat
    obtain ⟨k0, k1, k2, k3, ad0, len0, cap0, c0, c1, c2, c3, c4, hyv⟩ := hat0.get' hy
    simp only [Nat.zero_mul, Nat.add_zero] at c0 c1 c2 c3 c4
    have hbr : bl < W0.heap.size := Nat.lt_of_lt_of_le hb HB9.out.size
    have hnz : (0 : Int) < (n : Int) := by omega
    have r0 : W0.cell? ⟨w.heap.size + 1, 0, none⟩ = some (.int .i64 0) := by rw [hW0]; simp
    have r1 : W0.cell? ⟨w.heap.size + 1, 1, none⟩ = some (.string ⟨#[]⟩) := by rw [hW0]; simp
    have r2 : W0.cell? ⟨w.heap.size + 1, 2, none⟩ = some (.string ⟨#[]⟩) := by rw [hW0]; simp
    have r3 : W0.cell? ⟨w.heap.size + 1, 3, none⟩ = some (.int .i64 0) := by rw [hW0]; simp
    have r4 : W0.cell? ⟨w.heap.size + 1, 4, none⟩ = some (.slice none 0 0) := by rw [hW0]; simp
    have p0 : ∀ i, W0.frozen? ⟨w.heap.size + 1, i, none⟩ = false := fun i => by rw [hW0]; exact frozen_top _ _ _ _ _ (by simp)
    obtain ⟨cx, hcx⟩ : ∃ c, c = w.heap.size := ⟨_, rfl⟩
    rw [← hcx] at p0
    rw [← hcx] at d0 d1 d2 d3 d4 r0 r1 r2 r3 r4 hsz
    by_cases h4 : k = 4
    · subst h4
      have HVV : Hid (V = y.nrm (!q)) := Lib.hid (by rw [← HV.out, Ask.nrm, if_pos rfl]; exact HNY.out _)
      have HC := Lib.hid (HIH.out y (!q) _ W0 A (by omega) HY0.out (by omega) hyv)
      clear hat hat0 hy hyv hb9
      go_enter Tryd.func20, Tryd.ntmps20
      go_upto_region 3 with fail
      rw [← hW0, ← hcx]
      have HCX := Lib.hid hcx
      clear hW0 hcx
      go_wp2_with fail
      refine Calls.mono HC.out ?_
      rintro e' W3 ⟨x0, x1, x2, x3, xd, xl, xc, rfl, hxv, hl⟩
      have HXV := Lib.hid hxv
      have HL := Lib.hid hl
      have s0 := (hl.cell (p := ⟨cx + 1, 0, none⟩) (by show cx + 1 < _; omega)).trans r0
      have s1 := (hl.cell (p := ⟨cx + 1, 1, none⟩) (by show cx + 1 < _; omega)).trans r1
      have s2 := (hl.cell (p := ⟨cx + 1, 2, none⟩) (by show cx + 1 < _; omega)).trans r2
      have s3 := (hl.cell (p := ⟨cx + 1, 3, none⟩) (by show cx + 1 < _; omega)).trans r3
      have s4 := (hl.cell (p := ⟨cx + 1, 4, none⟩) (by show cx + 1 < _; omega)).trans r4
      have t0 := fun i => (hl.frozen (p := ⟨cx + 1, i, none⟩) (by show cx + 1 < _; omega)).trans (p0 i)
      have q0 := t0 0
      have q1 := t0 1
      have q2 := t0 2
      have q3 := t0 3
      have q4 := t0 4
      have hc3 : cx + 1 < W3.heap.size := Nat.lt_of_lt_of_le (by omega) hl.size
      clear hl hxv p0 t0
      go_wp2_with fail
      have hcx := HCX.out
      refine bodyPost_ret (v := .agg #[.int .i64 x0, .string x1, .string x2, .int .i64 x3, .slice xd xl xc]) (by simp [results, Tryd.results20, go_sem, s0, s1, s2, s3, s4]) rfl ?_
      show NrmQ A w V _ (five W3 (cx + 1) (.int .i64 x0) (.string x1) (.string x2) (.int .i64 x3) (.slice xd xl xc))
      refine ⟨x0, x1, x2, x3, xd, xl, xc, rfl, ?_, five_below (HB9.out.trans (HL.out.mono HB9.out.size)) _ _ _ _ _ _ (by omega)⟩
      rw [HVV.out]
      refine AskVP.stays (fun b h => ?_) (by rw [five_size]; exact Nat.le_refl _) (fun b h _ => five_heap _ _ _ _ _ _ _ b ?_) _ _ HXV.out
      · rcases h with h | h
        · exact .inl h
        · exact .inr (by omega)
      · rcases h with h | h <;> omega
    have hlen2 : n = 2 := by rw [HLEN.out]; unfold Ask.inner; rw [if_pos (by omega)]
    subst hlen2
    obtain ⟨z, hz⟩ : ∃ z, l[1]? = some z := ⟨_, List.getElem?_eq_getElem (by rw [← HN.out]; omega)⟩
    have hz1 := Ask.sizes_at hz
    have HZ0 := Lib.hid (Ask.errs_at HES.out hz)
    obtain ⟨m0, m1, m2, m3, ad1, len1, cap1, z0, z1, z2, z3, z4, hzv⟩ := hat0.get' hz
    simp only [Nat.one_mul] at z0 z1 z2 z3 z4
    have hsw : W0.heap.size = w.heap.size + 2 := by omega
    have HC0 : Hid (∀ W, Below W0.heap.size W0 W → Calls Tryd.prog 20 #[.agg #[.int .i64 k0, .string k1, .string k2, .int .i64 k3, .slice ad0 len0 cap0], .bool q] W (NrmQ A W (y.nrm q))) := Lib.hid (fun W hW => HIH.out y q _ W A (by omega) HY0.out (by have := hW.size; omega) (AskVP.stays (fun b h => h) hW.size (fun b _ h => hW.block b h) _ _ hyv))
    have HC1 : Hid (∀ W, Below W0.heap.size W0 W → Calls Tryd.prog 20 #[.agg #[.int .i64 m0, .string m1, .string m2, .int .i64 m3, .slice ad1 len1 cap1], .bool q] W (NrmQ A W (z.nrm q))) := Lib.hid (fun W hW => HIH.out z q _ W A (by omega) HZ0.out (by have := hW.size; omega) (AskVP.stays (fun b h => h) hW.size (fun b _ h => hW.block b h) _ _ hzv))
    have HNL : Hid (Ask.nrms q l = [y.nrm q, z.nrm q]) := Lib.hid (by
      match l, hy, hz, HN.out with
      | [_, _], hy, hz, _ => simp at hy hz; subst hy hz; simp [Ask.nrms])
    have hcx0 : cx < W0.heap.size := by omega
    have hcx1 : cx + 1 < W0.heap.size := by omega
    have hne1 : ¬ cx + 1 = bl := by omega
    have hne2 : ¬ bl = cx + 1 := by omega
    clear hat hat0 hy hz hyv hzv hb9 d1 d2 d3
    have h56 : k = 5 ∨ k = 6 := by omega
    have HCX := Lib.hid hcx
    have HSW := Lib.hid hsw
    cases q with
    | false =>
      have HVV : Hid (V = Ask.mk k [] [] 0 [y.nrm false, z.nrm false]) := Lib.hid (by rw [← HV.out, Ask.nrm, if_neg h4, if_pos h56, HNL.out]; rfl)
      rcases h56 with rfl | rfl
      · clear h3 h4 hsw
        go_enter Tryd.func20, Tryd.ntmps20
        go_upto_region 9 with fail
        rw [← hW0, ← hcx]
        clear hW0 hcx
        have d4d : W0.drew.cell? ⟨cx, 4, none⟩ = some (.slice (some ⟨bl, off, none⟩) 2 cap) := d4
        have c0d : W0.drew.cell? ⟨bl, off, none⟩ = some (.int .i64 k0) := c0
        have c1d : W0.drew.cell? ⟨bl, off + 1, none⟩ = some (.string k1) := c1
        have c2d : W0.drew.cell? ⟨bl, off + 2, none⟩ = some (.string k2) := c2
        have c3d : W0.drew.cell? ⟨bl, off + 3, none⟩ = some (.int .i64 k3) := c3
        have c4d : W0.drew.cell? ⟨bl, off + 4, none⟩ = some (.slice ad0 len0 cap0) := c4
        have z0d : W0.drew.cell? ⟨bl, off + 5, none⟩ = some (.int .i64 m0) := z0
        have z1d : W0.drew.cell? ⟨bl, off + 5 + 1, none⟩ = some (.string m1) := z1
        have z2d : W0.drew.cell? ⟨bl, off + 5 + 2, none⟩ = some (.string m2) := z2
        have z3d : W0.drew.cell? ⟨bl, off + 5 + 3, none⟩ = some (.int .i64 m3) := z3
        have z4d : W0.drew.cell? ⟨bl, off + 5 + 4, none⟩ = some (.slice ad1 len1 cap1) := z4
        first | (go_region_held3 (fun W => W.cell? ⟨cx, 4, none⟩ = some (.slice (some ⟨bl, off, none⟩) 2 cap) ∧ W.cell? ⟨bl, off, none⟩ = some (.int .i64 k0) ∧ W.cell? ⟨bl, off + 1, none⟩ = some (.string k1) ∧ W.cell? ⟨bl, off + 2, none⟩ = some (.string k2) ∧ W.cell? ⟨bl, off + 3, none⟩ = some (.int .i64 k3) ∧ W.cell? ⟨bl, off + 4, none⟩ = some (.slice ad0 len0 cap0) ∧ W.cell? ⟨bl, off + 5, none⟩ = some (.int .i64 m0) ∧ W.cell? ⟨bl, off + 5 + 1, none⟩ = some (.string m1) ∧ W.cell? ⟨bl, off + 5 + 2, none⟩ = some (.string m2) ∧ W.cell? ⟨bl, off + 5 + 3, none⟩ = some (.int .i64 m3) ∧ W.cell? ⟨bl, off + 5 + 4, none⟩ = some (.slice ad1 len1 cap1)) (first | with_reducible exact ⟨d4, c0, c1, c2, c3, c4, z0, z1, z2, z3, z4⟩ | with_reducible exact ⟨d4d, c0d, c1d, c2d, c3d, c4d, z0d, z1d, z2d, z3d, z4d⟩ | with_reducible exact ⟨d4a, c0a, c1a, c2a, c3a, c4a, z0a, z1a, z2a, z3a, z4a⟩ | with_reducible exact ⟨d4b, c0b, c1b, c2b, c3b, c4b, z0b, z1b, z2b, z3b, z4b⟩ | (with_reducible exact ⟨(World.cell?_alloc_lt _ _ ⟨cx, 4, none⟩ lb0).trans d4b, (World.cell?_alloc_lt _ _ ⟨bl, off, none⟩ lb1).trans c0b, (World.cell?_alloc_lt _ _ ⟨bl, off + 1, none⟩ lb1).trans c1b, (World.cell?_alloc_lt _ _ ⟨bl, off + 2, none⟩ lb1).trans c2b, (World.cell?_alloc_lt _ _ ⟨bl, off + 3, none⟩ lb1).trans c3b, (World.cell?_alloc_lt _ _ ⟨bl, off + 4, none⟩ lb1).trans c4b, (World.cell?_alloc_lt _ _ ⟨bl, off + 5, none⟩ lb1).trans z0b, (World.cell?_alloc_lt _ _ ⟨bl, off + 5 + 1, none⟩ lb1).trans z1b, (World.cell?_alloc_lt _ _ ⟨bl, off + 5 + 2, none⟩ lb1).trans z2b, (World.cell?_alloc_lt _ _ ⟨bl, off + 5 + 3, none⟩ lb1).trans z3b, (World.cell?_alloc_lt _ _ ⟨bl, off + 5 + 4, none⟩ lb1).trans z4b⟩) | go_keep) (first | (go_at_call 20; have hxx := hb1.size; clear hxx; refine Calls.mono (HC1.out _ ((show Below W0.heap.size W0 W0.drew from by go_grown).trans hb1)) ?_; rintro e w2 ⟨y0, y1, y2, y3, yd, yl, yc, rfl, hy2, hb2⟩; have HY2 := Lib.hid hy2; clear hy2; have s0 := (hb2.cell (p := ⟨cx + 1, 0, none⟩) (Nat.lt_of_lt_of_le hcx1 hb1.size)).trans ((hb1.cell (p := ⟨cx + 1, 0, none⟩) hcx1).trans r0); have s1 := (hb2.cell (p := ⟨cx + 1, 1, none⟩) (Nat.lt_of_lt_of_le hcx1 hb1.size)).trans ((hb1.cell (p := ⟨cx + 1, 1, none⟩) hcx1).trans r1); have s2 := (hb2.cell (p := ⟨cx + 1, 2, none⟩) (Nat.lt_of_lt_of_le hcx1 hb1.size)).trans ((hb1.cell (p := ⟨cx + 1, 2, none⟩) hcx1).trans r2); have s3 := (hb2.cell (p := ⟨cx + 1, 3, none⟩) (Nat.lt_of_lt_of_le hcx1 hb1.size)).trans ((hb1.cell (p := ⟨cx + 1, 3, none⟩) hcx1).trans r3); have s4 := (hb2.cell (p := ⟨cx + 1, 4, none⟩) (Nat.lt_of_lt_of_le hcx1 hb1.size)).trans ((hb1.cell (p := ⟨cx + 1, 4, none⟩) hcx1).trans r4); have q0 := (hb2.frozen (p := ⟨cx + 1, 0, none⟩) (Nat.lt_of_lt_of_le hcx1 hb1.size)).trans ((hb1.frozen (p := ⟨cx + 1, 0, none⟩) hcx1).trans (p0 0)); have q1 := (hb2.frozen (p := ⟨cx + 1, 1, none⟩) (Nat.lt_of_lt_of_le hcx1 hb1.size)).trans ((hb1.frozen (p := ⟨cx + 1, 1, none⟩) hcx1).trans (p0 1)); have q2 := (hb2.frozen (p := ⟨cx + 1, 2, none⟩) (Nat.lt_of_lt_of_le hcx1 hb1.size)).trans ((hb1.frozen (p := ⟨cx + 1, 2, none⟩) hcx1).trans (p0 2)); have q3 := (hb2.frozen (p := ⟨cx + 1, 3, none⟩) (Nat.lt_of_lt_of_le hcx1 hb1.size)).trans ((hb1.frozen (p := ⟨cx + 1, 3, none⟩) hcx1).trans (p0 3)); have q4 := (hb2.frozen (p := ⟨cx + 1, 4, none⟩) (Nat.lt_of_lt_of_le hcx1 hb1.size)).trans ((hb1.frozen (p := ⟨cx + 1, 4, none⟩) hcx1).trans (p0 4)); have d4b : w2.cell? ⟨cx, 4, none⟩ = some (.slice (some ⟨bl, off, none⟩) 2 cap) := (hb2.cell (p := ⟨cx, 4, none⟩) (Nat.lt_of_lt_of_le hcx0 hb1.size)).trans d4a; have c0b : w2.cell? ⟨bl, off, none⟩ = some (.int .i64 k0) := (hb2.cell (p := ⟨bl, off, none⟩) (Nat.lt_of_lt_of_le hbr hb1.size)).trans c0a; have c1b : w2.cell? ⟨bl, off + 1, none⟩ = some (.string k1) := (hb2.cell (p := ⟨bl, off + 1, none⟩) (Nat.lt_of_lt_of_le hbr hb1.size)).trans c1a; have c2b : w2.cell? ⟨bl, off + 2, none⟩ = some (.string k2) := (hb2.cell (p := ⟨bl, off + 2, none⟩) (Nat.lt_of_lt_of_le hbr hb1.size)).trans c2a; have c3b : w2.cell? ⟨bl, off + 3, none⟩ = some (.int .i64 k3) := (hb2.cell (p := ⟨bl, off + 3, none⟩) (Nat.lt_of_lt_of_le hbr hb1.size)).trans c3a; have c4b : w2.cell? ⟨bl, off + 4, none⟩ = some (.slice ad0 len0 cap0) := (hb2.cell (p := ⟨bl, off + 4, none⟩) (Nat.lt_of_lt_of_le hbr hb1.size)).trans c4a; have z0b : w2.cell? ⟨bl, off + 5, none⟩ = some (.int .i64 m0) := (hb2.cell (p := ⟨bl, off + 5, none⟩) (Nat.lt_of_lt_of_le hbr hb1.size)).trans z0a; have z1b : w2.cell? ⟨bl, off + 5 + 1, none⟩ = some (.string m1) := (hb2.cell (p := ⟨bl, off + 5 + 1, none⟩) (Nat.lt_of_lt_of_le hbr hb1.size)).trans z1a; have z2b : w2.cell? ⟨bl, off + 5 + 2, none⟩ = some (.string m2) := (hb2.cell (p := ⟨bl, off + 5 + 2, none⟩) (Nat.lt_of_lt_of_le hbr hb1.size)).trans z2a; have z3b : w2.cell? ⟨bl, off + 5 + 3, none⟩ = some (.int .i64 m3) := (hb2.cell (p := ⟨bl, off + 5 + 3, none⟩) (Nat.lt_of_lt_of_le hbr hb1.size)).trans z3a; have z4b : w2.cell? ⟨bl, off + 5 + 4, none⟩ = some (.slice ad1 len1 cap1) := (hb2.cell (p := ⟨bl, off + 5 + 4, none⟩) (Nat.lt_of_lt_of_le hbr hb1.size)).trans z4a; have lb0 : cx < w2.heap.size := Nat.lt_of_lt_of_le (Nat.lt_of_lt_of_le hcx0 hb1.size) hb2.size; have lb1 : bl < w2.heap.size := Nat.lt_of_lt_of_le (Nat.lt_of_lt_of_le hbr hb1.size) hb2.size; have hc2 : cx + 1 < w2.heap.size := Nat.lt_of_lt_of_le (Nat.lt_of_lt_of_le hcx1 hb1.size) hb2.size) | (go_at_call 20; refine Calls.mono (HC0.out _ (by first | exact Below.refl _ _ | go_grown)) ?_; rintro e w1 ⟨x0, x1, x2, x3, xd, xl, xc, rfl, hx1, hb1⟩; have HX1 := Lib.hid hx1; clear hx1; have d4a : w1.cell? ⟨cx, 4, none⟩ = some (.slice (some ⟨bl, off, none⟩) 2 cap) := (hb1.cell (p := ⟨cx, 4, none⟩) hcx0).trans d4; have c0a : w1.cell? ⟨bl, off, none⟩ = some (.int .i64 k0) := (hb1.cell (p := ⟨bl, off, none⟩) hbr).trans c0; have c1a : w1.cell? ⟨bl, off + 1, none⟩ = some (.string k1) := (hb1.cell (p := ⟨bl, off + 1, none⟩) hbr).trans c1; have c2a : w1.cell? ⟨bl, off + 2, none⟩ = some (.string k2) := (hb1.cell (p := ⟨bl, off + 2, none⟩) hbr).trans c2; have c3a : w1.cell? ⟨bl, off + 3, none⟩ = some (.int .i64 k3) := (hb1.cell (p := ⟨bl, off + 3, none⟩) hbr).trans c3; have c4a : w1.cell? ⟨bl, off + 4, none⟩ = some (.slice ad0 len0 cap0) := (hb1.cell (p := ⟨bl, off + 4, none⟩) hbr).trans c4; have z0a : w1.cell? ⟨bl, off + 5, none⟩ = some (.int .i64 m0) := (hb1.cell (p := ⟨bl, off + 5, none⟩) hbr).trans z0; have z1a : w1.cell? ⟨bl, off + 5 + 1, none⟩ = some (.string m1) := (hb1.cell (p := ⟨bl, off + 5 + 1, none⟩) hbr).trans z1; have z2a : w1.cell? ⟨bl, off + 5 + 2, none⟩ = some (.string m2) := (hb1.cell (p := ⟨bl, off + 5 + 2, none⟩) hbr).trans z2; have z3a : w1.cell? ⟨bl, off + 5 + 3, none⟩ = some (.int .i64 m3) := (hb1.cell (p := ⟨bl, off + 5 + 3, none⟩) hbr).trans z3; have z4a : w1.cell? ⟨bl, off + 5 + 4, none⟩ = some (.slice ad1 len1 cap1) := (hb1.cell (p := ⟨bl, off + 5 + 4, none⟩) hbr).trans z4))) | fail
        all_goals
          go_wp2_with fail
          have hcx := HCX.out
          have hsw := HSW.out
          have HB1 : Below W0.heap.size W0 w1 := (show Below W0.heap.size W0 W0.drew from by go_grown).trans hb1
          have HBw2 : Below w.heap.size w w2 := HB9.out.trans ((HB1.trans (hb2.mono HB1.size)).mono HB9.out.size)
          refine bodyPost_ret (v := .agg #[.int .i64 5, .string ⟨#[]⟩, .string ⟨#[]⟩, .int .i64 0, .slice (some ⟨w2.heap.size, 0, none⟩) 2 2]) (by simp [results, Tryd.results20, go_sem, s0, s1, s2, s3, s4, World.cell?_alloc_lt, hc2]) rfl ?_
          rw [HVV.out]
          exact two_end 5 HBw2 hb2 HB1.size (by omega) hcx hA HX1.out HY2.out
      · clear h3 h4 hsw
        go_enter Tryd.func20, Tryd.ntmps20
        go_upto_region 9 with fail
        rw [← hW0, ← hcx]
        clear hW0 hcx
        have d4d : W0.drew.cell? ⟨cx, 4, none⟩ = some (.slice (some ⟨bl, off, none⟩) 2 cap) := d4
        have c0d : W0.drew.cell? ⟨bl, off, none⟩ = some (.int .i64 k0) := c0
        have c1d : W0.drew.cell? ⟨bl, off + 1, none⟩ = some (.string k1) := c1
        have c2d : W0.drew.cell? ⟨bl, off + 2, none⟩ = some (.string k2) := c2
        have c3d : W0.drew.cell? ⟨bl, off + 3, none⟩ = some (.int .i64 k3) := c3
        have c4d : W0.drew.cell? ⟨bl, off + 4, none⟩ = some (.slice ad0 len0 cap0) := c4
        have z0d : W0.drew.cell? ⟨bl, off + 5, none⟩ = some (.int .i64 m0) := z0
        have z1d : W0.drew.cell? ⟨bl, off + 5 + 1, none⟩ = some (.string m1) := z1
        have z2d : W0.drew.cell? ⟨bl, off + 5 + 2, none⟩ = some (.string m2) := z2
        have z3d : W0.drew.cell? ⟨bl, off + 5 + 3, none⟩ = some (.int .i64 m3) := z3
        have z4d : W0.drew.cell? ⟨bl, off + 5 + 4, none⟩ = some (.slice ad1 len1 cap1) := z4
        first | (go_region_held3 (fun W => W.cell? ⟨cx, 4, none⟩ = some (.slice (some ⟨bl, off, none⟩) 2 cap) ∧ W.cell? ⟨bl, off, none⟩ = some (.int .i64 k0) ∧ W.cell? ⟨bl, off + 1, none⟩ = some (.string k1) ∧ W.cell? ⟨bl, off + 2, none⟩ = some (.string k2) ∧ W.cell? ⟨bl, off + 3, none⟩ = some (.int .i64 k3) ∧ W.cell? ⟨bl, off + 4, none⟩ = some (.slice ad0 len0 cap0) ∧ W.cell? ⟨bl, off + 5, none⟩ = some (.int .i64 m0) ∧ W.cell? ⟨bl, off + 5 + 1, none⟩ = some (.string m1) ∧ W.cell? ⟨bl, off + 5 + 2, none⟩ = some (.string m2) ∧ W.cell? ⟨bl, off + 5 + 3, none⟩ = some (.int .i64 m3) ∧ W.cell? ⟨bl, off + 5 + 4, none⟩ = some (.slice ad1 len1 cap1)) (first | with_reducible exact ⟨d4, c0, c1, c2, c3, c4, z0, z1, z2, z3, z4⟩ | with_reducible exact ⟨d4d, c0d, c1d, c2d, c3d, c4d, z0d, z1d, z2d, z3d, z4d⟩ | with_reducible exact ⟨d4a, c0a, c1a, c2a, c3a, c4a, z0a, z1a, z2a, z3a, z4a⟩ | with_reducible exact ⟨d4b, c0b, c1b, c2b, c3b, c4b, z0b, z1b, z2b, z3b, z4b⟩ | (with_reducible exact ⟨(World.cell?_alloc_lt _ _ ⟨cx, 4, none⟩ lb0).trans d4b, (World.cell?_alloc_lt _ _ ⟨bl, off, none⟩ lb1).trans c0b, (World.cell?_alloc_lt _ _ ⟨bl, off + 1, none⟩ lb1).trans c1b, (World.cell?_alloc_lt _ _ ⟨bl, off + 2, none⟩ lb1).trans c2b, (World.cell?_alloc_lt _ _ ⟨bl, off + 3, none⟩ lb1).trans c3b, (World.cell?_alloc_lt _ _ ⟨bl, off + 4, none⟩ lb1).trans c4b, (World.cell?_alloc_lt _ _ ⟨bl, off + 5, none⟩ lb1).trans z0b, (World.cell?_alloc_lt _ _ ⟨bl, off + 5 + 1, none⟩ lb1).trans z1b, (World.cell?_alloc_lt _ _ ⟨bl, off + 5 + 2, none⟩ lb1).trans z2b, (World.cell?_alloc_lt _ _ ⟨bl, off + 5 + 3, none⟩ lb1).trans z3b, (World.cell?_alloc_lt _ _ ⟨bl, off + 5 + 4, none⟩ lb1).trans z4b⟩) | go_keep) (first | (go_at_call 20; have hxx := hb1.size; clear hxx; refine Calls.mono (HC1.out _ ((show Below W0.heap.size W0 W0.drew from by go_grown).trans hb1)) ?_; rintro e w2 ⟨y0, y1, y2, y3, yd, yl, yc, rfl, hy2, hb2⟩; have HY2 := Lib.hid hy2; clear hy2; have s0 := (hb2.cell (p := ⟨cx + 1, 0, none⟩) (Nat.lt_of_lt_of_le hcx1 hb1.size)).trans ((hb1.cell (p := ⟨cx + 1, 0, none⟩) hcx1).trans r0); have s1 := (hb2.cell (p := ⟨cx + 1, 1, none⟩) (Nat.lt_of_lt_of_le hcx1 hb1.size)).trans ((hb1.cell (p := ⟨cx + 1, 1, none⟩) hcx1).trans r1); have s2 := (hb2.cell (p := ⟨cx + 1, 2, none⟩) (Nat.lt_of_lt_of_le hcx1 hb1.size)).trans ((hb1.cell (p := ⟨cx + 1, 2, none⟩) hcx1).trans r2); have s3 := (hb2.cell (p := ⟨cx + 1, 3, none⟩) (Nat.lt_of_lt_of_le hcx1 hb1.size)).trans ((hb1.cell (p := ⟨cx + 1, 3, none⟩) hcx1).trans r3); have s4 := (hb2.cell (p := ⟨cx + 1, 4, none⟩) (Nat.lt_of_lt_of_le hcx1 hb1.size)).trans ((hb1.cell (p := ⟨cx + 1, 4, none⟩) hcx1).trans r4); have q0 := (hb2.frozen (p := ⟨cx + 1, 0, none⟩) (Nat.lt_of_lt_of_le hcx1 hb1.size)).trans ((hb1.frozen (p := ⟨cx + 1, 0, none⟩) hcx1).trans (p0 0)); have q1 := (hb2.frozen (p := ⟨cx + 1, 1, none⟩) (Nat.lt_of_lt_of_le hcx1 hb1.size)).trans ((hb1.frozen (p := ⟨cx + 1, 1, none⟩) hcx1).trans (p0 1)); have q2 := (hb2.frozen (p := ⟨cx + 1, 2, none⟩) (Nat.lt_of_lt_of_le hcx1 hb1.size)).trans ((hb1.frozen (p := ⟨cx + 1, 2, none⟩) hcx1).trans (p0 2)); have q3 := (hb2.frozen (p := ⟨cx + 1, 3, none⟩) (Nat.lt_of_lt_of_le hcx1 hb1.size)).trans ((hb1.frozen (p := ⟨cx + 1, 3, none⟩) hcx1).trans (p0 3)); have q4 := (hb2.frozen (p := ⟨cx + 1, 4, none⟩) (Nat.lt_of_lt_of_le hcx1 hb1.size)).trans ((hb1.frozen (p := ⟨cx + 1, 4, none⟩) hcx1).trans (p0 4)); have d4b : w2.cell? ⟨cx, 4, none⟩ = some (.slice (some ⟨bl, off, none⟩) 2 cap) := (hb2.cell (p := ⟨cx, 4, none⟩) (Nat.lt_of_lt_of_le hcx0 hb1.size)).trans d4a; have c0b : w2.cell? ⟨bl, off, none⟩ = some (.int .i64 k0) := (hb2.cell (p := ⟨bl, off, none⟩) (Nat.lt_of_lt_of_le hbr hb1.size)).trans c0a; have c1b : w2.cell? ⟨bl, off + 1, none⟩ = some (.string k1) := (hb2.cell (p := ⟨bl, off + 1, none⟩) (Nat.lt_of_lt_of_le hbr hb1.size)).trans c1a; have c2b : w2.cell? ⟨bl, off + 2, none⟩ = some (.string k2) := (hb2.cell (p := ⟨bl, off + 2, none⟩) (Nat.lt_of_lt_of_le hbr hb1.size)).trans c2a; have c3b : w2.cell? ⟨bl, off + 3, none⟩ = some (.int .i64 k3) := (hb2.cell (p := ⟨bl, off + 3, none⟩) (Nat.lt_of_lt_of_le hbr hb1.size)).trans c3a; have c4b : w2.cell? ⟨bl, off + 4, none⟩ = some (.slice ad0 len0 cap0) := (hb2.cell (p := ⟨bl, off + 4, none⟩) (Nat.lt_of_lt_of_le hbr hb1.size)).trans c4a; have z0b : w2.cell? ⟨bl, off + 5, none⟩ = some (.int .i64 m0) := (hb2.cell (p := ⟨bl, off + 5, none⟩) (Nat.lt_of_lt_of_le hbr hb1.size)).trans z0a; have z1b : w2.cell? ⟨bl, off + 5 + 1, none⟩ = some (.string m1) := (hb2.cell (p := ⟨bl, off + 5 + 1, none⟩) (Nat.lt_of_lt_of_le hbr hb1.size)).trans z1a; have z2b : w2.cell? ⟨bl, off + 5 + 2, none⟩ = some (.string m2) := (hb2.cell (p := ⟨bl, off + 5 + 2, none⟩) (Nat.lt_of_lt_of_le hbr hb1.size)).trans z2a; have z3b : w2.cell? ⟨bl, off + 5 + 3, none⟩ = some (.int .i64 m3) := (hb2.cell (p := ⟨bl, off + 5 + 3, none⟩) (Nat.lt_of_lt_of_le hbr hb1.size)).trans z3a; have z4b : w2.cell? ⟨bl, off + 5 + 4, none⟩ = some (.slice ad1 len1 cap1) := (hb2.cell (p := ⟨bl, off + 5 + 4, none⟩) (Nat.lt_of_lt_of_le hbr hb1.size)).trans z4a; have lb0 : cx < w2.heap.size := Nat.lt_of_lt_of_le (Nat.lt_of_lt_of_le hcx0 hb1.size) hb2.size; have lb1 : bl < w2.heap.size := Nat.lt_of_lt_of_le (Nat.lt_of_lt_of_le hbr hb1.size) hb2.size; have hc2 : cx + 1 < w2.heap.size := Nat.lt_of_lt_of_le (Nat.lt_of_lt_of_le hcx1 hb1.size) hb2.size) | (go_at_call 20; refine Calls.mono (HC0.out _ (by first | exact Below.refl _ _ | go_grown)) ?_; rintro e w1 ⟨x0, x1, x2, x3, xd, xl, xc, rfl, hx1, hb1⟩; have HX1 := Lib.hid hx1; clear hx1; have d4a : w1.cell? ⟨cx, 4, none⟩ = some (.slice (some ⟨bl, off, none⟩) 2 cap) := (hb1.cell (p := ⟨cx, 4, none⟩) hcx0).trans d4; have c0a : w1.cell? ⟨bl, off, none⟩ = some (.int .i64 k0) := (hb1.cell (p := ⟨bl, off, none⟩) hbr).trans c0; have c1a : w1.cell? ⟨bl, off + 1, none⟩ = some (.string k1) := (hb1.cell (p := ⟨bl, off + 1, none⟩) hbr).trans c1; have c2a : w1.cell? ⟨bl, off + 2, none⟩ = some (.string k2) := (hb1.cell (p := ⟨bl, off + 2, none⟩) hbr).trans c2; have c3a : w1.cell? ⟨bl, off + 3, none⟩ = some (.int .i64 k3) := (hb1.cell (p := ⟨bl, off + 3, none⟩) hbr).trans c3; have c4a : w1.cell? ⟨bl, off + 4, none⟩ = some (.slice ad0 len0 cap0) := (hb1.cell (p := ⟨bl, off + 4, none⟩) hbr).trans c4; have z0a : w1.cell? ⟨bl, off + 5, none⟩ = some (.int .i64 m0) := (hb1.cell (p := ⟨bl, off + 5, none⟩) hbr).trans z0; have z1a : w1.cell? ⟨bl, off + 5 + 1, none⟩ = some (.string m1) := (hb1.cell (p := ⟨bl, off + 5 + 1, none⟩) hbr).trans z1; have z2a : w1.cell? ⟨bl, off + 5 + 2, none⟩ = some (.string m2) := (hb1.cell (p := ⟨bl, off + 5 + 2, none⟩) hbr).trans z2; have z3a : w1.cell? ⟨bl, off + 5 + 3, none⟩ = some (.int .i64 m3) := (hb1.cell (p := ⟨bl, off + 5 + 3, none⟩) hbr).trans z3; have z4a : w1.cell? ⟨bl, off + 5 + 4, none⟩ = some (.slice ad1 len1 cap1) := (hb1.cell (p := ⟨bl, off + 5 + 4, none⟩) hbr).trans z4))) | fail
        all_goals
          go_wp2_with fail
          have hcx := HCX.out
          have hsw := HSW.out
          have HB1 : Below W0.heap.size W0 w1 := (show Below W0.heap.size W0 W0.drew from by go_grown).trans hb1
          have HBw2 : Below w.heap.size w w2 := HB9.out.trans ((HB1.trans (hb2.mono HB1.size)).mono HB9.out.size)
          refine bodyPost_ret (v := .agg #[.int .i64 6, .string ⟨#[]⟩, .string ⟨#[]⟩, .int .i64 0, .slice (some ⟨w2.heap.size, 0, none⟩) 2 2]) (by simp [results, Tryd.results20, go_sem, s0, s1, s2, s3, s4, World.cell?_alloc_lt, hc2]) rfl ?_
          rw [HVV.out]
          exact two_end 6 HBw2 hb2 HB1.size (by omega) hcx hA HX1.out HY2.out
    | true =>
      have HVV : Hid (V = Ask.mk (11 - k) [] [] 0 [y.nrm true, z.nrm true]) := Lib.hid (by rw [← HV.out, Ask.nrm, if_neg h4, if_pos h56, HNL.out]; rfl)
      rcases h56 with rfl | rfl
      · clear h3 h4 hsw
        go_enter Tryd.func20, Tryd.ntmps20
        go_upto_region 9 with fail
        rw [← hW0, ← hcx]
        clear hW0 hcx
        have d4d : W0.drew.cell? ⟨cx, 4, none⟩ = some (.slice (some ⟨bl, off, none⟩) 2 cap) := d4
        have c0d : W0.drew.cell? ⟨bl, off, none⟩ = some (.int .i64 k0) := c0
        have c1d : W0.drew.cell? ⟨bl, off + 1, none⟩ = some (.string k1) := c1
        have c2d : W0.drew.cell? ⟨bl, off + 2, none⟩ = some (.string k2) := c2
        have c3d : W0.drew.cell? ⟨bl, off + 3, none⟩ = some (.int .i64 k3) := c3
        have c4d : W0.drew.cell? ⟨bl, off + 4, none⟩ = some (.slice ad0 len0 cap0) := c4
        have z0d : W0.drew.cell? ⟨bl, off + 5, none⟩ = some (.int .i64 m0) := z0
        have z1d : W0.drew.cell? ⟨bl, off + 5 + 1, none⟩ = some (.string m1) := z1
        have z2d : W0.drew.cell? ⟨bl, off + 5 + 2, none⟩ = some (.string m2) := z2
        have z3d : W0.drew.cell? ⟨bl, off + 5 + 3, none⟩ = some (.int .i64 m3) := z3
        have z4d : W0.drew.cell? ⟨bl, off + 5 + 4, none⟩ = some (.slice ad1 len1 cap1) := z4
        first | (go_region_held3 (fun W => W.cell? ⟨cx, 4, none⟩ = some (.slice (some ⟨bl, off, none⟩) 2 cap) ∧ W.cell? ⟨bl, off, none⟩ = some (.int .i64 k0) ∧ W.cell? ⟨bl, off + 1, none⟩ = some (.string k1) ∧ W.cell? ⟨bl, off + 2, none⟩ = some (.string k2) ∧ W.cell? ⟨bl, off + 3, none⟩ = some (.int .i64 k3) ∧ W.cell? ⟨bl, off + 4, none⟩ = some (.slice ad0 len0 cap0) ∧ W.cell? ⟨bl, off + 5, none⟩ = some (.int .i64 m0) ∧ W.cell? ⟨bl, off + 5 + 1, none⟩ = some (.string m1) ∧ W.cell? ⟨bl, off + 5 + 2, none⟩ = some (.string m2) ∧ W.cell? ⟨bl, off + 5 + 3, none⟩ = some (.int .i64 m3) ∧ W.cell? ⟨bl, off + 5 + 4, none⟩ = some (.slice ad1 len1 cap1)) (first | with_reducible exact ⟨d4, c0, c1, c2, c3, c4, z0, z1, z2, z3, z4⟩ | with_reducible exact ⟨d4d, c0d, c1d, c2d, c3d, c4d, z0d, z1d, z2d, z3d, z4d⟩ | with_reducible exact ⟨d4a, c0a, c1a, c2a, c3a, c4a, z0a, z1a, z2a, z3a, z4a⟩ | with_reducible exact ⟨d4b, c0b, c1b, c2b, c3b, c4b, z0b, z1b, z2b, z3b, z4b⟩ | (with_reducible exact ⟨(World.cell?_alloc_lt _ _ ⟨cx, 4, none⟩ lb0).trans d4b, (World.cell?_alloc_lt _ _ ⟨bl, off, none⟩ lb1).trans c0b, (World.cell?_alloc_lt _ _ ⟨bl, off + 1, none⟩ lb1).trans c1b, (World.cell?_alloc_lt _ _ ⟨bl, off + 2, none⟩ lb1).trans c2b, (World.cell?_alloc_lt _ _ ⟨bl, off + 3, none⟩ lb1).trans c3b, (World.cell?_alloc_lt _ _ ⟨bl, off + 4, none⟩ lb1).trans c4b, (World.cell?_alloc_lt _ _ ⟨bl, off + 5, none⟩ lb1).trans z0b, (World.cell?_alloc_lt _ _ ⟨bl, off + 5 + 1, none⟩ lb1).trans z1b, (World.cell?_alloc_lt _ _ ⟨bl, off + 5 + 2, none⟩ lb1).trans z2b, (World.cell?_alloc_lt _ _ ⟨bl, off + 5 + 3, none⟩ lb1).trans z3b, (World.cell?_alloc_lt _ _ ⟨bl, off + 5 + 4, none⟩ lb1).trans z4b⟩) | go_keep) (first | (go_at_call 20; have hxx := hb1.size; clear hxx; refine Calls.mono (HC1.out _ ((show Below W0.heap.size W0 W0.drew from by go_grown).trans hb1)) ?_; rintro e w2 ⟨y0, y1, y2, y3, yd, yl, yc, rfl, hy2, hb2⟩; have HY2 := Lib.hid hy2; clear hy2; have s0 := (hb2.cell (p := ⟨cx + 1, 0, none⟩) (Nat.lt_of_lt_of_le hcx1 hb1.size)).trans ((hb1.cell (p := ⟨cx + 1, 0, none⟩) hcx1).trans r0); have s1 := (hb2.cell (p := ⟨cx + 1, 1, none⟩) (Nat.lt_of_lt_of_le hcx1 hb1.size)).trans ((hb1.cell (p := ⟨cx + 1, 1, none⟩) hcx1).trans r1); have s2 := (hb2.cell (p := ⟨cx + 1, 2, none⟩) (Nat.lt_of_lt_of_le hcx1 hb1.size)).trans ((hb1.cell (p := ⟨cx + 1, 2, none⟩) hcx1).trans r2); have s3 := (hb2.cell (p := ⟨cx + 1, 3, none⟩) (Nat.lt_of_lt_of_le hcx1 hb1.size)).trans ((hb1.cell (p := ⟨cx + 1, 3, none⟩) hcx1).trans r3); have s4 := (hb2.cell (p := ⟨cx + 1, 4, none⟩) (Nat.lt_of_lt_of_le hcx1 hb1.size)).trans ((hb1.cell (p := ⟨cx + 1, 4, none⟩) hcx1).trans r4); have q0 := (hb2.frozen (p := ⟨cx + 1, 0, none⟩) (Nat.lt_of_lt_of_le hcx1 hb1.size)).trans ((hb1.frozen (p := ⟨cx + 1, 0, none⟩) hcx1).trans (p0 0)); have q1 := (hb2.frozen (p := ⟨cx + 1, 1, none⟩) (Nat.lt_of_lt_of_le hcx1 hb1.size)).trans ((hb1.frozen (p := ⟨cx + 1, 1, none⟩) hcx1).trans (p0 1)); have q2 := (hb2.frozen (p := ⟨cx + 1, 2, none⟩) (Nat.lt_of_lt_of_le hcx1 hb1.size)).trans ((hb1.frozen (p := ⟨cx + 1, 2, none⟩) hcx1).trans (p0 2)); have q3 := (hb2.frozen (p := ⟨cx + 1, 3, none⟩) (Nat.lt_of_lt_of_le hcx1 hb1.size)).trans ((hb1.frozen (p := ⟨cx + 1, 3, none⟩) hcx1).trans (p0 3)); have q4 := (hb2.frozen (p := ⟨cx + 1, 4, none⟩) (Nat.lt_of_lt_of_le hcx1 hb1.size)).trans ((hb1.frozen (p := ⟨cx + 1, 4, none⟩) hcx1).trans (p0 4)); have d4b : w2.cell? ⟨cx, 4, none⟩ = some (.slice (some ⟨bl, off, none⟩) 2 cap) := (hb2.cell (p := ⟨cx, 4, none⟩) (Nat.lt_of_lt_of_le hcx0 hb1.size)).trans d4a; have c0b : w2.cell? ⟨bl, off, none⟩ = some (.int .i64 k0) := (hb2.cell (p := ⟨bl, off, none⟩) (Nat.lt_of_lt_of_le hbr hb1.size)).trans c0a; have c1b : w2.cell? ⟨bl, off + 1, none⟩ = some (.string k1) := (hb2.cell (p := ⟨bl, off + 1, none⟩) (Nat.lt_of_lt_of_le hbr hb1.size)).trans c1a; have c2b : w2.cell? ⟨bl, off + 2, none⟩ = some (.string k2) := (hb2.cell (p := ⟨bl, off + 2, none⟩) (Nat.lt_of_lt_of_le hbr hb1.size)).trans c2a; have c3b : w2.cell? ⟨bl, off + 3, none⟩ = some (.int .i64 k3) := (hb2.cell (p := ⟨bl, off + 3, none⟩) (Nat.lt_of_lt_of_le hbr hb1.size)).trans c3a; have c4b : w2.cell? ⟨bl, off + 4, none⟩ = some (.slice ad0 len0 cap0) := (hb2.cell (p := ⟨bl, off + 4, none⟩) (Nat.lt_of_lt_of_le hbr hb1.size)).trans c4a; have z0b : w2.cell? ⟨bl, off + 5, none⟩ = some (.int .i64 m0) := (hb2.cell (p := ⟨bl, off + 5, none⟩) (Nat.lt_of_lt_of_le hbr hb1.size)).trans z0a; have z1b : w2.cell? ⟨bl, off + 5 + 1, none⟩ = some (.string m1) := (hb2.cell (p := ⟨bl, off + 5 + 1, none⟩) (Nat.lt_of_lt_of_le hbr hb1.size)).trans z1a; have z2b : w2.cell? ⟨bl, off + 5 + 2, none⟩ = some (.string m2) := (hb2.cell (p := ⟨bl, off + 5 + 2, none⟩) (Nat.lt_of_lt_of_le hbr hb1.size)).trans z2a; have z3b : w2.cell? ⟨bl, off + 5 + 3, none⟩ = some (.int .i64 m3) := (hb2.cell (p := ⟨bl, off + 5 + 3, none⟩) (Nat.lt_of_lt_of_le hbr hb1.size)).trans z3a; have z4b : w2.cell? ⟨bl, off + 5 + 4, none⟩ = some (.slice ad1 len1 cap1) := (hb2.cell (p := ⟨bl, off + 5 + 4, none⟩) (Nat.lt_of_lt_of_le hbr hb1.size)).trans z4a; have lb0 : cx < w2.heap.size := Nat.lt_of_lt_of_le (Nat.lt_of_lt_of_le hcx0 hb1.size) hb2.size; have lb1 : bl < w2.heap.size := Nat.lt_of_lt_of_le (Nat.lt_of_lt_of_le hbr hb1.size) hb2.size; have hc2 : cx + 1 < w2.heap.size := Nat.lt_of_lt_of_le (Nat.lt_of_lt_of_le hcx1 hb1.size) hb2.size) | (go_at_call 20; refine Calls.mono (HC0.out _ (by first | exact Below.refl _ _ | go_grown)) ?_; rintro e w1 ⟨x0, x1, x2, x3, xd, xl, xc, rfl, hx1, hb1⟩; have HX1 := Lib.hid hx1; clear hx1; have d4a : w1.cell? ⟨cx, 4, none⟩ = some (.slice (some ⟨bl, off, none⟩) 2 cap) := (hb1.cell (p := ⟨cx, 4, none⟩) hcx0).trans d4; have c0a : w1.cell? ⟨bl, off, none⟩ = some (.int .i64 k0) := (hb1.cell (p := ⟨bl, off, none⟩) hbr).trans c0; have c1a : w1.cell? ⟨bl, off + 1, none⟩ = some (.string k1) := (hb1.cell (p := ⟨bl, off + 1, none⟩) hbr).trans c1; have c2a : w1.cell? ⟨bl, off + 2, none⟩ = some (.string k2) := (hb1.cell (p := ⟨bl, off + 2, none⟩) hbr).trans c2; have c3a : w1.cell? ⟨bl, off + 3, none⟩ = some (.int .i64 k3) := (hb1.cell (p := ⟨bl, off + 3, none⟩) hbr).trans c3; have c4a : w1.cell? ⟨bl, off + 4, none⟩ = some (.slice ad0 len0 cap0) := (hb1.cell (p := ⟨bl, off + 4, none⟩) hbr).trans c4; have z0a : w1.cell? ⟨bl, off + 5, none⟩ = some (.int .i64 m0) := (hb1.cell (p := ⟨bl, off + 5, none⟩) hbr).trans z0; have z1a : w1.cell? ⟨bl, off + 5 + 1, none⟩ = some (.string m1) := (hb1.cell (p := ⟨bl, off + 5 + 1, none⟩) hbr).trans z1; have z2a : w1.cell? ⟨bl, off + 5 + 2, none⟩ = some (.string m2) := (hb1.cell (p := ⟨bl, off + 5 + 2, none⟩) hbr).trans z2; have z3a : w1.cell? ⟨bl, off + 5 + 3, none⟩ = some (.int .i64 m3) := (hb1.cell (p := ⟨bl, off + 5 + 3, none⟩) hbr).trans z3; have z4a : w1.cell? ⟨bl, off + 5 + 4, none⟩ = some (.slice ad1 len1 cap1) := (hb1.cell (p := ⟨bl, off + 5 + 4, none⟩) hbr).trans z4))) | fail
        all_goals
          go_wp2_with fail
          have hcx := HCX.out
          have hsw := HSW.out
          have HB1 : Below W0.heap.size W0 w1 := (show Below W0.heap.size W0 W0.drew from by go_grown).trans hb1
          have HBw2 : Below w.heap.size w w2 := HB9.out.trans ((HB1.trans (hb2.mono HB1.size)).mono HB9.out.size)
          refine bodyPost_ret (v := .agg #[.int .i64 6, .string ⟨#[]⟩, .string ⟨#[]⟩, .int .i64 0, .slice (some ⟨w2.heap.size, 0, none⟩) 2 2]) (by simp [results, Tryd.results20, go_sem, s0, s1, s2, s3, s4, World.cell?_alloc_lt, hc2]) rfl ?_
          rw [HVV.out]
          exact two_end 6 HBw2 hb2 HB1.size (by omega) hcx hA HX1.out HY2.out
      · clear h3 h4 hsw
        go_enter Tryd.func20, Tryd.ntmps20
        go_upto_region 9 with fail
        rw [← hW0, ← hcx]
        clear hW0 hcx
        have d4d : W0.drew.cell? ⟨cx, 4, none⟩ = some (.slice (some ⟨bl, off, none⟩) 2 cap) := d4
        have c0d : W0.drew.cell? ⟨bl, off, none⟩ = some (.int .i64 k0) := c0
        have c1d : W0.drew.cell? ⟨bl, off + 1, none⟩ = some (.string k1) := c1
        have c2d : W0.drew.cell? ⟨bl, off + 2, none⟩ = some (.string k2) := c2
        have c3d : W0.drew.cell? ⟨bl, off + 3, none⟩ = some (.int .i64 k3) := c3
        have c4d : W0.drew.cell? ⟨bl, off + 4, none⟩ = some (.slice ad0 len0 cap0) := c4
        have z0d : W0.drew.cell? ⟨bl, off + 5, none⟩ = some (.int .i64 m0) := z0
        have z1d : W0.drew.cell? ⟨bl, off + 5 + 1, none⟩ = some (.string m1) := z1
        have z2d : W0.drew.cell? ⟨bl, off + 5 + 2, none⟩ = some (.string m2) := z2
        have z3d : W0.drew.cell? ⟨bl, off + 5 + 3, none⟩ = some (.int .i64 m3) := z3
        have z4d : W0.drew.cell? ⟨bl, off + 5 + 4, none⟩ = some (.slice ad1 len1 cap1) := z4
        first | (go_region_held3 (fun W => W.cell? ⟨cx, 4, none⟩ = some (.slice (some ⟨bl, off, none⟩) 2 cap) ∧ W.cell? ⟨bl, off, none⟩ = some (.int .i64 k0) ∧ W.cell? ⟨bl, off + 1, none⟩ = some (.string k1) ∧ W.cell? ⟨bl, off + 2, none⟩ = some (.string k2) ∧ W.cell? ⟨bl, off + 3, none⟩ = some (.int .i64 k3) ∧ W.cell? ⟨bl, off + 4, none⟩ = some (.slice ad0 len0 cap0) ∧ W.cell? ⟨bl, off + 5, none⟩ = some (.int .i64 m0) ∧ W.cell? ⟨bl, off + 5 + 1, none⟩ = some (.string m1) ∧ W.cell? ⟨bl, off + 5 + 2, none⟩ = some (.string m2) ∧ W.cell? ⟨bl, off + 5 + 3, none⟩ = some (.int .i64 m3) ∧ W.cell? ⟨bl, off + 5 + 4, none⟩ = some (.slice ad1 len1 cap1)) (first | with_reducible exact ⟨d4, c0, c1, c2, c3, c4, z0, z1, z2, z3, z4⟩ | with_reducible exact ⟨d4d, c0d, c1d, c2d, c3d, c4d, z0d, z1d, z2d, z3d, z4d⟩ | with_reducible exact ⟨d4a, c0a, c1a, c2a, c3a, c4a, z0a, z1a, z2a, z3a, z4a⟩ | with_reducible exact ⟨d4b, c0b, c1b, c2b, c3b, c4b, z0b, z1b, z2b, z3b, z4b⟩ | (with_reducible exact ⟨(World.cell?_alloc_lt _ _ ⟨cx, 4, none⟩ lb0).trans d4b, (World.cell?_alloc_lt _ _ ⟨bl, off, none⟩ lb1).trans c0b, (World.cell?_alloc_lt _ _ ⟨bl, off + 1, none⟩ lb1).trans c1b, (World.cell?_alloc_lt _ _ ⟨bl, off + 2, none⟩ lb1).trans c2b, (World.cell?_alloc_lt _ _ ⟨bl, off + 3, none⟩ lb1).trans c3b, (World.cell?_alloc_lt _ _ ⟨bl, off + 4, none⟩ lb1).trans c4b, (World.cell?_alloc_lt _ _ ⟨bl, off + 5, none⟩ lb1).trans z0b, (World.cell?_alloc_lt _ _ ⟨bl, off + 5 + 1, none⟩ lb1).trans z1b, (World.cell?_alloc_lt _ _ ⟨bl, off + 5 + 2, none⟩ lb1).trans z2b, (World.cell?_alloc_lt _ _ ⟨bl, off + 5 + 3, none⟩ lb1).trans z3b, (World.cell?_alloc_lt _ _ ⟨bl, off + 5 + 4, none⟩ lb1).trans z4b⟩) | go_keep) (first | (go_at_call 20; have hxx := hb1.size; clear hxx; refine Calls.mono (HC1.out _ ((show Below W0.heap.size W0 W0.drew from by go_grown).trans hb1)) ?_; rintro e w2 ⟨y0, y1, y2, y3, yd, yl, yc, rfl, hy2, hb2⟩; have HY2 := Lib.hid hy2; clear hy2; have s0 := (hb2.cell (p := ⟨cx + 1, 0, none⟩) (Nat.lt_of_lt_of_le hcx1 hb1.size)).trans ((hb1.cell (p := ⟨cx + 1, 0, none⟩) hcx1).trans r0); have s1 := (hb2.cell (p := ⟨cx + 1, 1, none⟩) (Nat.lt_of_lt_of_le hcx1 hb1.size)).trans ((hb1.cell (p := ⟨cx + 1, 1, none⟩) hcx1).trans r1); have s2 := (hb2.cell (p := ⟨cx + 1, 2, none⟩) (Nat.lt_of_lt_of_le hcx1 hb1.size)).trans ((hb1.cell (p := ⟨cx + 1, 2, none⟩) hcx1).trans r2); have s3 := (hb2.cell (p := ⟨cx + 1, 3, none⟩) (Nat.lt_of_lt_of_le hcx1 hb1.size)).trans ((hb1.cell (p := ⟨cx + 1, 3, none⟩) hcx1).trans r3); have s4 := (hb2.cell (p := ⟨cx + 1, 4, none⟩) (Nat.lt_of_lt_of_le hcx1 hb1.size)).trans ((hb1.cell (p := ⟨cx + 1, 4, none⟩) hcx1).trans r4); have q0 := (hb2.frozen (p := ⟨cx + 1, 0, none⟩) (Nat.lt_of_lt_of_le hcx1 hb1.size)).trans ((hb1.frozen (p := ⟨cx + 1, 0, none⟩) hcx1).trans (p0 0)); have q1 := (hb2.frozen (p := ⟨cx + 1, 1, none⟩) (Nat.lt_of_lt_of_le hcx1 hb1.size)).trans ((hb1.frozen (p := ⟨cx + 1, 1, none⟩) hcx1).trans (p0 1)); have q2 := (hb2.frozen (p := ⟨cx + 1, 2, none⟩) (Nat.lt_of_lt_of_le hcx1 hb1.size)).trans ((hb1.frozen (p := ⟨cx + 1, 2, none⟩) hcx1).trans (p0 2)); have q3 := (hb2.frozen (p := ⟨cx + 1, 3, none⟩) (Nat.lt_of_lt_of_le hcx1 hb1.size)).trans ((hb1.frozen (p := ⟨cx + 1, 3, none⟩) hcx1).trans (p0 3)); have q4 := (hb2.frozen (p := ⟨cx + 1, 4, none⟩) (Nat.lt_of_lt_of_le hcx1 hb1.size)).trans ((hb1.frozen (p := ⟨cx + 1, 4, none⟩) hcx1).trans (p0 4)); have d4b : w2.cell? ⟨cx, 4, none⟩ = some (.slice (some ⟨bl, off, none⟩) 2 cap) := (hb2.cell (p := ⟨cx, 4, none⟩) (Nat.lt_of_lt_of_le hcx0 hb1.size)).trans d4a; have c0b : w2.cell? ⟨bl, off, none⟩ = some (.int .i64 k0) := (hb2.cell (p := ⟨bl, off, none⟩) (Nat.lt_of_lt_of_le hbr hb1.size)).trans c0a; have c1b : w2.cell? ⟨bl, off + 1, none⟩ = some (.string k1) := (hb2.cell (p := ⟨bl, off + 1, none⟩) (Nat.lt_of_lt_of_le hbr hb1.size)).trans c1a; have c2b : w2.cell? ⟨bl, off + 2, none⟩ = some (.string k2) := (hb2.cell (p := ⟨bl, off + 2, none⟩) (Nat.lt_of_lt_of_le hbr hb1.size)).trans c2a; have c3b : w2.cell? ⟨bl, off + 3, none⟩ = some (.int .i64 k3) := (hb2.cell (p := ⟨bl, off + 3, none⟩) (Nat.lt_of_lt_of_le hbr hb1.size)).trans c3a; have c4b : w2.cell? ⟨bl, off + 4, none⟩ = some (.slice ad0 len0 cap0) := (hb2.cell (p := ⟨bl, off + 4, none⟩) (Nat.lt_of_lt_of_le hbr hb1.size)).trans c4a; have z0b : w2.cell? ⟨bl, off + 5, none⟩ = some (.int .i64 m0) := (hb2.cell (p := ⟨bl, off + 5, none⟩) (Nat.lt_of_lt_of_le hbr hb1.size)).trans z0a; have z1b : w2.cell? ⟨bl, off + 5 + 1, none⟩ = some (.string m1) := (hb2.cell (p := ⟨bl, off + 5 + 1, none⟩) (Nat.lt_of_lt_of_le hbr hb1.size)).trans z1a; have z2b : w2.cell? ⟨bl, off + 5 + 2, none⟩ = some (.string m2) := (hb2.cell (p := ⟨bl, off + 5 + 2, none⟩) (Nat.lt_of_lt_of_le hbr hb1.size)).trans z2a; have z3b : w2.cell? ⟨bl, off + 5 + 3, none⟩ = some (.int .i64 m3) := (hb2.cell (p := ⟨bl, off + 5 + 3, none⟩) (Nat.lt_of_lt_of_le hbr hb1.size)).trans z3a; have z4b : w2.cell? ⟨bl, off + 5 + 4, none⟩ = some (.slice ad1 len1 cap1) := (hb2.cell (p := ⟨bl, off + 5 + 4, none⟩) (Nat.lt_of_lt_of_le hbr hb1.size)).trans z4a; have lb0 : cx < w2.heap.size := Nat.lt_of_lt_of_le (Nat.lt_of_lt_of_le hcx0 hb1.size) hb2.size; have lb1 : bl < w2.heap.size := Nat.lt_of_lt_of_le (Nat.lt_of_lt_of_le hbr hb1.size) hb2.size; have hc2 : cx + 1 < w2.heap.size := Nat.lt_of_lt_of_le (Nat.lt_of_lt_of_le hcx1 hb1.size) hb2.size) | (go_at_call 20; refine Calls.mono (HC0.out _ (by first | exact Below.refl _ _ | go_grown)) ?_; rintro e w1 ⟨x0, x1, x2, x3, xd, xl, xc, rfl, hx1, hb1⟩; have HX1 := Lib.hid hx1; clear hx1; have d4a : w1.cell? ⟨cx, 4, none⟩ = some (.slice (some ⟨bl, off, none⟩) 2 cap) := (hb1.cell (p := ⟨cx, 4, none⟩) hcx0).trans d4; have c0a : w1.cell? ⟨bl, off, none⟩ = some (.int .i64 k0) := (hb1.cell (p := ⟨bl, off, none⟩) hbr).trans c0; have c1a : w1.cell? ⟨bl, off + 1, none⟩ = some (.string k1) := (hb1.cell (p := ⟨bl, off + 1, none⟩) hbr).trans c1; have c2a : w1.cell? ⟨bl, off + 2, none⟩ = some (.string k2) := (hb1.cell (p := ⟨bl, off + 2, none⟩) hbr).trans c2; have c3a : w1.cell? ⟨bl, off + 3, none⟩ = some (.int .i64 k3) := (hb1.cell (p := ⟨bl, off + 3, none⟩) hbr).trans c3; have c4a : w1.cell? ⟨bl, off + 4, none⟩ = some (.slice ad0 len0 cap0) := (hb1.cell (p := ⟨bl, off + 4, none⟩) hbr).trans c4; have z0a : w1.cell? ⟨bl, off + 5, none⟩ = some (.int .i64 m0) := (hb1.cell (p := ⟨bl, off + 5, none⟩) hbr).trans z0; have z1a : w1.cell? ⟨bl, off + 5 + 1, none⟩ = some (.string m1) := (hb1.cell (p := ⟨bl, off + 5 + 1, none⟩) hbr).trans z1; have z2a : w1.cell? ⟨bl, off + 5 + 2, none⟩ = some (.string m2) := (hb1.cell (p := ⟨bl, off + 5 + 2, none⟩) hbr).trans z2; have z3a : w1.cell? ⟨bl, off + 5 + 3, none⟩ = some (.int .i64 m3) := (hb1.cell (p := ⟨bl, off + 5 + 3, none⟩) hbr).trans z3; have z4a : w1.cell? ⟨bl, off + 5 + 4, none⟩ = some (.slice ad1 len1 cap1) := (hb1.cell (p := ⟨bl, off + 5 + 4, none⟩) hbr).trans z4))) | fail
        all_goals
          go_wp2_with fail
          have hcx := HCX.out
          have hsw := HSW.out
          have HB1 : Below W0.heap.size W0 w1 := (show Below W0.heap.size W0 W0.drew from by go_grown).trans hb1
          have HBw2 : Below w.heap.size w w2 := HB9.out.trans ((HB1.trans (hb2.mono HB1.size)).mono HB9.out.size)
          refine bodyPost_ret (v := .agg #[.int .i64 5, .string ⟨#[]⟩, .string ⟨#[]⟩, .int .i64 0, .slice (some ⟨w2.heap.size, 0, none⟩) 2 2]) (by simp [results, Tryd.results20, go_sem, s0, s1, s2, s3, s4, World.cell?_alloc_lt, hc2]) rfl ?_
          rw [HVV.out]
          exact two_end 5 HBw2 hb2 HB1.size (by omega) hcx hA HX1.out HY2.out
theorem norm_any (x : Ask) (q : Bool) (v : Value) (w : World) (he : x.err = 0) (hx : AskV w x v) : Calls Tryd.prog 20 #[v, .bool q] w (NrmQ w.heap.size w (x.nrm q)) := norm_all x.size x q v w w.heap.size (Nat.le_refl _) he (Nat.le_refl _) (AskV.toP x v hx)
end Go.Proofs.YtkelkpfjkjcmgaaDoor
