/- Contract: what an ask is worth, by what its atoms are; the program's, by a closure that is handed in. -/
import Derived.Test.YtnfmopmcckgfdaaAskCheck
import Derived.Laws.EntriesVeiled
namespace Go.Proofs.Ytnfmopmcckgfdaa
open Go.ChangeShapes Go.WideShapes Go.ChangeAt Go.RowKit
set_option linter.unusedVariables false
open Tp
namespace Ask
mutual
/-- what an ask is worth, by what its atoms are -/
def ev (f : Ask → Bool) : Ask → Bool
  | mk k a b n l => if k = 4 then !((evs f l).getD 0 false) else if k = 5 then (evs f l).getD 0 false && (evs f l).getD 1 false else if k = 6 then (evs f l).getD 0 false || (evs f l).getD 1 false else f (mk k a b n l)
def evs (f : Ask → Bool) : List Ask → List Bool
  | [] => []
  | x :: l => ev f x :: evs f l
end
theorem err_zero {k : Int} {a b : Bs} {n : Int} {l : List Ask} (h : err (mk k a b n l) = 0) : bad k a b n l.length = 0 ∧ errs l = 0 := by
  rw [err] at h
  split at h
  · rename_i h2; exact absurd h h2
  · rename_i h2; exact ⟨Decidable.byContradiction h2, h⟩
theorem errs_at {l : List Ask} {i : Nat} {x : Ask} (h : errs l = 0) (hx : l[i]? = some x) : err x = 0 := by
  induction l generalizing i with
  | nil => simp at hx
  | cons y l ih =>
    rw [errs] at h
    split at h
    · rename_i h2; exact absurd h h2
    · rename_i h2
      cases i with
      | zero => simp at hx; subst hx; exact Decidable.byContradiction h2
      | succ i => exact ih (i := i) h (by simpa using hx)
theorem bad_zero {k : Int} {a b : Bs} {n : Int} {len : Nat} (h : bad k a b n len = 0) : 1 ≤ k ∧ k ≤ 6 ∧ len = inner k ∧ (k ≠ 3 → n = 0) ∧ 0 ≤ n ∧ n ≤ 1099511627776 ∧ (4 ≤ k → a = []) ∧ (k ≠ 2 → b = []) ∧ (k = 3 → unit a = true) ∧ (k = 1 ∨ k = 2 → lab a = true) ∧ (k = 2 → lab b = true) := by
  unfold bad at h
  split at h
  · cases h
  rename_i h1
  split at h
  · cases h
  rename_i h2
  split at h
  · cases h
  rename_i h3
  split at h
  · cases h
  rename_i h4
  have g1 : len = inner k := Decidable.byContradiction fun e => h2 (.inl e)
  have g2 : 4 ≤ k → a = [] := fun e => Decidable.byContradiction fun e2 => h2 (.inr (.inl ⟨e, e2⟩))
  have g3 : k ≠ 2 → b = [] := fun e => Decidable.byContradiction fun e2 => h2 (.inr (.inr (.inl ⟨e, e2⟩)))
  have g4 : k ≠ 3 → n = 0 := fun e => Decidable.byContradiction fun e2 => h2 (.inr (.inr (.inr ⟨e, e2⟩)))
  have g5 : k = 3 → unit a = true := fun e => by
    cases hu : unit a with
    | true => rfl
    | false => exact absurd (.inl ⟨e, hu⟩) h3
  have g6 : k = 1 ∨ k = 2 → lab a = true := fun e => by
    cases hu : lab a with
    | true => rfl
    | false => exact absurd (.inr (.inl ⟨e, hu⟩)) h3
  have g7 : k = 2 → lab b = true := fun e => by
    cases hu : lab b with
    | true => rfl
    | false => exact absurd (.inr (.inr ⟨e, hu⟩)) h3
  exact ⟨by omega, by omega, g1, g4, by omega, by omega, g2, g3, g5, g6, g7⟩
theorem evs_at {f : Ask → Bool} {l : List Ask} {i : Nat} {x : Ask} (h : l[i]? = some x) : (evs f l).getD i false = ev f x := by
  induction l generalizing i with
  | nil => simp at h
  | cons y l ih =>
    rw [evs]
    cases i with
    | zero => simp at h; subst h; rfl
    | succ i => simpa using ih (i := i) (by simpa using h)
end Ask
/-- a function of the program, not of the machine -/
def Enters (K : FuncId) : Prop := ∀ (args : Array Value) (w : World), (callFunc K args).run Try.prog w = .ok (.enter K args) w
/-- cells of a row's asks, named -/
theorem AsksV.get' {w : World} {l : List Ask} {b off i : Nat} {x : Ask} (h : AsksV w l b off) (hx : l[i]? = some x) : ∃ (k0 : Int) (k1 k2 : ByteArray) (k3 : Int) (ad : Option Addr) (len cap : Nat), w.cell? ⟨b, off + i * 5, none⟩ = some (.int .i64 k0) ∧ w.cell? ⟨b, off + i * 5 + 1, none⟩ = some (.string k1) ∧ w.cell? ⟨b, off + i * 5 + 2, none⟩ = some (.string k2) ∧ w.cell? ⟨b, off + i * 5 + 3, none⟩ = some (.int .i64 k3) ∧ w.cell? ⟨b, off + i * 5 + 4, none⟩ = some (.slice ad len cap) ∧ AskV w x (.agg #[.int .i64 k0, .string k1, .string k2, .int .i64 k3, .slice ad len cap]) := by
  obtain ⟨ad, len, cap, h0, h1, h2, h3, h4, h5⟩ := h.get hx
  exact ⟨_, _, _, _, ad, len, cap, h0, h1, h2, h3, h4, h5⟩
set_option maxRecDepth 20000 in
set_option maxHeartbeats 16000000 in
theorem value_all (K : FuncId) (hE : Enters K) (ct : Array Value) (f : Ask → Bool) (J : World → Prop)
    (hJ : ∀ w w', J w → Below w.heap.size w w' → J w')
    (hA : ∀ (y : Ask) (v : Value) (w : World), J w → AskV w y v → y.err = 0 → y.kind ≤ 3 → Calls Try.prog K (#[v] ++ ct) w fun e w' => e = .returned (.bool (f y)) ∧ Below w.heap.size w w') :
    ∀ (N : Nat) (x : Ask) (v : Value) (w : World), x.size ≤ N → x.err = 0 → J w → AskV w x v → Calls Try.prog 47 #[v, .func (.func K) #[] ct] w fun e w' => e = .returned (.bool (x.ev f)) ∧ Below w.heap.size w w' := by
  intro N
  induction N with
  | zero => intro x v w h; have := Ask.one_le x; omega
  | succ N ih =>
    intro x v w hN herr hj hv
    have HIH := Lib.hid ih
    have HJ := Lib.hid hJ
    have HA := Lib.hid hA
    have hv2 := hv
    cases x with
    | mk k ka va nu l =>
    rw [AskV] at hv
    obtain ⟨ad, n, cap, rfl, hn, hcap, hmax, _, _, hrow⟩ := hv
    obtain ⟨hb0, hes⟩ := Ask.err_zero herr
    obtain ⟨hk1, hk6, hlen, hrest⟩ := Ask.bad_zero hb0
    clear hrest
    rw [Ask.size] at hN
    rw [← hn] at hlen
    obtain ⟨V, hV⟩ : ∃ V, (Ask.mk k ka va nu l).ev f = V := ⟨_, rfl⟩
    have HV := Lib.hid hV
    rw [hV]
    have hb9 : Below w.heap.size w (w.alloc (.cells #[.int .i64 k, .string (bts ka), .string (bts va), .int .i64 nu, .slice ad n cap] 25)) := (Below.refl _ _).alloc (Nat.le_refl _) _
    have HAT : Hid (k ≤ 3 → Calls Try.prog K (#[.agg #[.int .i64 k, .string (bts ka), .string (bts va), .int .i64 nu, .slice ad n cap]] ++ ct) (w.alloc (.cells #[.int .i64 k, .string (bts ka), .string (bts va), .int .i64 nu, .slice ad n cap] 25)) fun e w' => e = .returned (.bool (f (Ask.mk k ka va nu l))) ∧ Below (w.alloc (.cells #[.int .i64 k, .string (bts ka), .string (bts va), .int .i64 nu, .slice ad n cap] 25)).heap.size (w.alloc (.cells #[.int .i64 k, .string (bts ka), .string (bts va), .int .i64 nu, .slice ad n cap] 25)) w') := Lib.hid (fun h3 => HA.out _ _ _ (HJ.out _ _ hj hb9) (AskV.below hb9 _ _ hv2) herr h3)
    have HN := Lib.hid hn
    have HR := Lib.hid hrow
    have HES := Lib.hid hes
    have HJW := Lib.hid hj
    obtain ⟨a1, ha1⟩ : ∃ a, bts ka = a := ⟨_, rfl⟩
    obtain ⟨a2, ha2⟩ : ∃ a, bts va = a := ⟨_, rfl⟩
    rw [ha1, ha2] at hb9 HAT ⊢
    have HB9 := Lib.hid hb9
    clear ih hJ hA herr hj hv2 hn hrow hb0 hes hV hb9 ha1 ha2
    unfold Enters at hE
    by_cases h3 : k ≤ 3
    · have HVV : Hid (V = f (Ask.mk k ka va nu l)) := Lib.hid (by rw [← HV.out, Ask.ev, if_neg (by omega), if_neg (by omega), if_neg (by omega)])
      have HC := Lib.hid (HAT.out h3)
      have e4 : (k == 4) = false := by simp; omega
      have e5 : (k == 5) = false := by simp; omega
      have e6 : (k == 6) = false := by simp; omega
      clear HAT h3 hlen
      go_enter Try.func47, Try.ntmps47
      go_wp2_with fail
      refine Calls.mono HC.out ?_
      rintro e' W3 ⟨rfl, h1⟩
      have HB3 := Lib.hid (HB9.out.trans (h1.mono HB9.out.size))
      clear h1
      go_wp2_with fail
      go_ret
      exact ⟨ret_bool HVV.out.symm, HB3.out⟩
    clear HAT
    obtain ⟨y, hy⟩ : ∃ y, l[0]? = some y := ⟨_, List.getElem?_eq_getElem (by rw [← HN.out, hlen]; unfold Ask.inner; split <;> (try split) <;> omega)⟩
    have hn0 : 0 < n := by rw [hlen]; unfold Ask.inner; split <;> (try split) <;> omega
    obtain ⟨bl, off, rfl, hb, hat⟩ := HR.out hn0
    have HAT := Lib.hid hat
    have hy1 := Ask.sizes_at hy
    have HY0 := Lib.hid (Ask.errs_at HES.out hy)
    have HE0 := Lib.hid (Ask.evs_at (f := f) hy)
    obtain ⟨W0, hW0⟩ : ∃ W, W = w.alloc (.cells #[.int .i64 k, .string a1, .string a2, .int .i64 nu, .slice (some ⟨bl, off, none⟩) n cap] 25) := ⟨_, rfl⟩
    rw [← hW0] at HB9
    obtain ⟨cx, hcx⟩ : ∃ c, c = w.heap.size := ⟨_, rfl⟩
    have hcx0 : cx < W0.heap.size := by rw [hcx, hW0]; simp
    have d4 : W0.cell? ⟨cx, 4, none⟩ = some (.slice (some ⟨bl, off, none⟩) n cap) := by rw [hcx, hW0]; simp
    have d0 : W0.cell? ⟨cx, 0, none⟩ = some (.int .i64 k) := by rw [hcx, hW0]; simp
    obtain ⟨k0, k1, k2, k3, ad', len', cap', c0, c1, c2, c3, c4, hyv⟩ := (AsksV.below HB9.out l bl off hb hat).get' hy
    simp only [Nat.zero_mul, Nat.add_zero] at c0 c1 c2 c3 c4
    have HJ0 := Lib.hid (HJ.out _ _ HJW.out HB9.out)
    have HC0 := Lib.hid (HIH.out y _ W0 (by omega) HY0.out HJ0.out hyv)
    have hbr : bl < W0.heap.size := Nat.lt_of_lt_of_le hb HB9.out.size
    obtain ⟨v0, hv0⟩ : ∃ b, y.ev f = b := ⟨_, rfl⟩
    rw [hv0] at HC0 HE0
    have hnz : (0 : Int) < (n : Int) := by omega
    clear hat hy hyv hv0
    by_cases h4 : k = 4
    · subst h4
      have HVV : Hid (V = !v0) := Lib.hid (by rw [← HV.out, Ask.ev, if_pos rfl, HE0.out])
      clear hlen
      go_enter Try.func47, Try.ntmps47
      go_upto_region 3 with fail
      rw [← hW0, ← hcx]
      clear hW0 hcx
      go_wp2_with fail
      refine Calls.mono HC0.out ?_
      rintro e' W3 ⟨rfl, h1⟩
      have HB3 := Lib.hid (HB9.out.trans (h1.mono HB9.out.size))
      clear h1
      go_wp2_with fail
      go_ret
      exact ⟨ret_bool HVV.out.symm, HB3.out⟩
    have hlen2 : n = 2 := by rw [hlen]; unfold Ask.inner; rw [if_pos (by omega)]
    subst hlen2
    obtain ⟨z, hz⟩ : ∃ z, l[1]? = some z := ⟨_, List.getElem?_eq_getElem (by rw [← HN.out]; omega)⟩
    have hz1 := Ask.sizes_at hz
    have HZ0 := Lib.hid (Ask.errs_at HES.out hz)
    have HE1 := Lib.hid (Ask.evs_at (f := f) hz)
    obtain ⟨v1, hv1⟩ : ∃ b, z.ev f = b := ⟨_, rfl⟩
    rw [hv1] at HE1
    have HC1 := Lib.hid (fun (W3 : World) (hb3 : Below w.heap.size w W3) => (show ∃ (k0 : Int) (k1 k2 : ByteArray) (k3 : Int) (ad : Option Addr) (len cap : Nat), W3.cell? ⟨bl, off + 5, none⟩ = some (.int .i64 k0) ∧ W3.cell? ⟨bl, off + 5 + 1, none⟩ = some (.string k1) ∧ W3.cell? ⟨bl, off + 5 + 2, none⟩ = some (.string k2) ∧ W3.cell? ⟨bl, off + 5 + 3, none⟩ = some (.int .i64 k3) ∧ W3.cell? ⟨bl, off + 5 + 4, none⟩ = some (.slice ad len cap) ∧ Calls Try.prog 47 #[.agg #[.int .i64 k0, .string k1, .string k2, .int .i64 k3, .slice ad len cap], .func (.func K) #[] ct] W3 (fun e w' => e = .returned (.bool v1) ∧ Below W3.heap.size W3 w') from by
      obtain ⟨k0, k1, k2, k3, ad', len', cap', c0, c1, c2, c3, c4, hzv⟩ := (AsksV.below hb3 l bl off hb HAT.out).get' hz
      have := HIH.out z _ W3 (by omega) HZ0.out (HJ.out _ _ HJW.out hb3) hzv
      rw [hv1] at this
      exact ⟨k0, k1, k2, k3, ad', len', cap', c0, c1, c2, c3, c4, this⟩))
    clear hz hv1 hlen
    have h56 : k = 5 ∨ k = 6 := by omega
    rcases h56 with rfl | rfl
    · have HVV : Hid (V = (v0 && v1)) := Lib.hid (by rw [← HV.out, Ask.ev, if_neg (by omega), if_pos rfl, HE0.out, HE1.out])
      go_enter Try.func47, Try.ntmps47
      go_upto_region 5 with fail
      rw [← hW0, ← hcx]
      clear hW0 hcx
      go_wp2_with fail
      refine Calls.mono HC0.out ?_
      rintro e' W3 ⟨rfl, h1⟩
      have HB3 := Lib.hid (HB9.out.trans (h1.mono HB9.out.size))
      have g4 : W3.cell? ⟨cx, 4, none⟩ = some (.slice (some ⟨bl, off, none⟩) 2 cap) := (h1.cell (p := ⟨cx, 4, none⟩) hcx0).trans d4
      clear h1
      cases v0 with
      | false =>
        go_wp2_with fail
        go_ret
        exact ⟨ret_bool HVV.out.symm, HB3.out⟩
      | true =>
        obtain ⟨m0, m1, m2, m3, md, ml, mc, e0, e1, e2, e3, e4, hcz⟩ := HC1.out W3 HB3.out
        have HCZ := Lib.hid hcz
        clear hcz c0 c1 c2 c3 c4 d0 d4
        go_wp2_with fail
        refine Calls.mono HCZ.out ?_
        rintro e' W4 ⟨rfl, h1⟩
        have HB4 := Lib.hid (HB3.out.trans (h1.mono HB3.out.size))
        clear h1
        go_wp2_with fail
        go_ret
        exact ⟨ret_bool HVV.out.symm, HB4.out⟩
    · have HVV : Hid (V = (v0 || v1)) := Lib.hid (by rw [← HV.out, Ask.ev, if_neg (by omega), if_neg (by omega), if_pos rfl, HE0.out, HE1.out])
      go_enter Try.func47, Try.ntmps47
      go_upto_region 7 with fail
      rw [← hW0, ← hcx]
      clear hW0 hcx
      go_wp2_with fail
      refine Calls.mono HC0.out ?_
      rintro e' W3 ⟨rfl, h1⟩
      have HB3 := Lib.hid (HB9.out.trans (h1.mono HB9.out.size))
      have g4 : W3.cell? ⟨cx, 4, none⟩ = some (.slice (some ⟨bl, off, none⟩) 2 cap) := (h1.cell (p := ⟨cx, 4, none⟩) hcx0).trans d4
      clear h1
      cases v0 with
      | true =>
        go_wp2_with fail
        go_ret
        exact ⟨ret_bool HVV.out.symm, HB3.out⟩
      | false =>
        obtain ⟨m0, m1, m2, m3, md, ml, mc, e0, e1, e2, e3, e4, hcz⟩ := HC1.out W3 HB3.out
        have HCZ := Lib.hid hcz
        clear hcz c0 c1 c2 c3 c4 d0 d4
        go_wp2_with fail
        refine Calls.mono HCZ.out ?_
        rintro e' W4 ⟨rfl, h1⟩
        have HB4 := Lib.hid (HB3.out.trans (h1.mono HB3.out.size))
        clear h1
        go_wp2_with fail
        go_ret
        exact ⟨ret_bool HVV.out.symm, HB4.out⟩
end Go.Proofs.Ytnfmopmcckgfdaa
