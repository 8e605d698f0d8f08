/- Contract: Best: the host with the least left; the program's. -/
import Derived.Test.YtnfmopmcckgfdaaHostMin
namespace Go.Proofs.Ytnfmopmcckgfdaa
open Go.ChangeShapes Go.WideShapes Go.ChangeAt Go.RowKit
set_option linter.unusedVariables false
open Tp
def leftAt (L : List Hst) (i : Nat) : Amt := match L[i]? with | some h => h.left | none => .zero
theorem leftAt_eq {L : List Hst} {i : Nat} {h : Hst} (e : L[i]? = some h) : leftAt L i = h.left := by unfold leftAt; rw [e]
/-- which of two hosts has less left -/
def czL (L : List Hst) (i k : Nat) : Int := (leftAt L i).cmp (leftAt L k)
/-- the best of those that fit -/
def bestL (L : List Hst) : List Nat → Option Nat
  | [] => none
  | m :: l => some (minF (czL L) m l)
def bestE (x : Ask) (A : Amt) (L : List Hst) : Int := if fitE x A L ≠ 0 then fitE x A L else match bestL L (fitR x A L) with | none => 5 | some _ => 0
def bestV (x : Ask) (A : Amt) (L : List Hst) : Int := match bestL L (fitR x A L) with | none => 0 | some b => (b : Int)
def BestQ (w : World) (x : Ask) (A : Amt) (L : List Hst) (e : Ending) (w' : World) : Prop := e = .returned (.tuple #[.int .i64 (bestV x A L), .int .i64 (bestE x A L)]) ∧ Below w.heap.size w w'
theorem best_bad {w w' : World} {x : Ask} {A : Amt} {L : List Hst} {E : Int} (hE : fitE x A L = E) (h : E ≠ 0) (hb : Below w.heap.size w w') : BestQ w x A L (.returned (.tuple #[.int .i64 0, .int .i64 E])) w' := by
  have e1 : bestE x A L = E := by unfold bestE; rw [if_pos (by rw [hE]; exact h), hE]
  have e2 : bestV x A L = 0 := by unfold bestV fitR; rw [if_neg (by rw [hE]; exact h)]; rfl
  exact ⟨by rw [e1, e2], hb⟩
theorem fitE_zero {x : Ask} {A : Amt} {L : List Hst} (h : fitE x A L = 0) : hostsE L = 0 ∧ x.fault = 0 ∧ amtE A = 0 := by
  unfold fitE at h
  split at h
  · rename_i h1; exact absurd h h1
  · rename_i h1
    split at h
    · rename_i h2; exact absurd h h2
    · rename_i h2
      exact ⟨Decidable.byContradiction h1, Decidable.byContradiction h2, h⟩
theorem fitR_at {x : Ask} {A : Amt} {L : List Hst} {i : Nat} (h : i ∈ fitR x A L) : ∃ hh, L[i]? = some hh := by
  unfold fitR at h
  split at h
  · exact ⟨_, List.getElem?_eq_getElem (fitL_lt h)⟩
  · simp at h
theorem czL_any (L : List Hst) (hok : hostsE L = 0) (cf cb i k : Nat) (W : World) (hi : ∃ h, L[i]? = some h) (hk : ∃ h, L[k]? = some h) (hB : CmpBox W cf cb L) :
    Calls Try.prog 33 (#[.int .i64 (i : Int), .int .i64 (k : Int)] ++ #[.pointer (some ⟨cf, 0, none⟩)]) W fun e w' => e = .returned (.int .i64 (czL L i k)) ∧ Below W.heap.size W w' := by
  obtain ⟨h, hx⟩ := hi
  obtain ⟨h', hy⟩ := hk
  have := less_any L (fun i h hx => hosts_each hok hx) cf cb i k h h' W hx hy hB
  unfold czL
  rw [leftAt_eq hx, leftAt_eq hy]
  exact this
set_option maxRecDepth 20000 in
set_option maxHeartbeats 16000000 in
theorem Best_any (x : Ask) (A : Amt) (L : List Hst) (a : Option Addr) (n cap : Nat) (vx : Value) (w : World) (hn : n = L.length) (hmax : n ≤ 9223372036854775807) (hs : x.size ≤ 1000000000) (hL : Hosts w a L) (hx : AskV w x vx) :
    Calls Try.prog 10 #[.slice a n cap, vx, A.v] w fun e w' => BestQ w x A L e w' := by
  obtain ⟨k, a1, a2, nu, ad, m, cp, rfl⟩ := askForm hx
  obtain ⟨Wa, hWa⟩ : ∃ W, W = w.alloc (.cells #[.slice a n cap] 22) := ⟨_, rfl⟩
  obtain ⟨W0, hW0⟩ : ∃ W, W = (Wa.alloc (.cells #[.int .i64 k, .string a1, .string a2, .int .i64 nu, .slice ad m cp] 25)).alloc (.cells #[.int .i64 A.cpu, .int .i64 A.mem, .int .i64 A.gpu] 27) := ⟨_, rfl⟩
  obtain ⟨c, hc⟩ : ∃ c, c = w.heap.size := ⟨_, rfl⟩
  have hca : c + 1 = Wa.heap.size := by rw [hWa, hc]; simp
  have HX2 := Lib.hid (Box2.made hca hW0)
  have hba : Below w.heap.size w Wa := by rw [hWa]; exact (Below.refl _ _).alloc (Nat.le_refl _) _
  have hbb : Below Wa.heap.size Wa W0 := by rw [hW0]; exact ((Below.refl _ _).alloc (Nat.le_refl _) _).alloc (by simp) _
  have hb9 : Below w.heap.size w W0 := hba.trans (hbb.mono hba.size)
  have s0 : W0.cell? ⟨c, 0, none⟩ = some (.slice a n cap) := (hbb.cell (p := ⟨c, 0, none⟩) (by show c < Wa.heap.size; omega)).trans (by rw [hWa]; exact (top_cell _ _ _ _ _ hc).trans rfl)
  have hlc : c < W0.heap.size := Nat.lt_of_lt_of_le (by omega : c < Wa.heap.size) hbb.size
  have HB0 := Lib.hid hb9
  have HL0 := Lib.hid (hL.below hb9)
  have HXV := Lib.hid (AskV.below hb9 _ _ hx)
  have HF := Lib.hid (Fit_any x A L a n cap _ W0 hn hmax hs HL0.out HXV.out)
  have HN := Lib.hid hn
  obtain ⟨x0, x1, x2, x3, x4, y0, y1, y2, _⟩ := HX2.out
  obtain ⟨E, hE⟩ : ∃ E, fitE x A L = E := ⟨_, rfl⟩
  have HE := Lib.hid hE
  unfold FitQ at HF
  rw [hE] at HF
  rw [hWa] at hW0
  unfold Amt.v at HF ⊢
  clear hn hs hL hx hb9 hE hba hbb hca hWa
  by_cases he : E = 0
  · subst he
    cases hr : fitR x A L with
    | nil =>
      have HR : Hid (BestQ w x A L (.returned (.tuple #[.int .i64 0, .int .i64 5])) = BestQ w x A L (.returned (.tuple #[.int .i64 0, .int .i64 5]))) := Lib.hid rfl
      have HV : Hid (bestV x A L = 0 ∧ bestE x A L = 5) := Lib.hid (by unfold bestV bestE; rw [hr, HE.out]; exact ⟨rfl, rfl⟩)
      rw [hr] at HF
      clear hr
      go_enter Try.func10, Try.ntmps10
      go_upto_region 1 with fail
      rw [← hc, ← hW0]
      clear hW0 hc
      go_wp2_with fail
      refine Calls.mono HF.out ?_
      rintro e' W1 ⟨v, rfl, ho, hl⟩
      have HB1 := Lib.hid (HB0.out.trans (hl.mono HB0.out.size))
      obtain ⟨a', cp', rfl, _⟩ := isVals1 ho
      clear hl ho
      go_wp2_with fail
      go_ret2
      exact ⟨by rw [HV.out.1, HV.out.2]; rfl, HB1.out⟩
    | cons m0 l =>
      have HV : Hid (bestV x A L = (minF (czL L) m0 l : Int) ∧ bestE x A L = 0) := Lib.hid (by unfold bestV bestE; rw [hr, HE.out]; exact ⟨rfl, rfl⟩)
      rw [hr] at HF
      have HRR := Lib.hid hr
      obtain ⟨fn, hfn⟩ : ∃ q, (m0 :: l).length = q := ⟨_, rfl⟩
      rw [hfn] at HF
      have HFN := Lib.hid hfn
      have hfn0 : 0 < fn := by rw [← hfn]; simp
      have hfi : ¬ (fn : Int) = 0 := by omega
      have hfb : ((fn : Int) == 0) = false := by simp; omega
      clear hr hfn
      go_enter Try.func10, Try.ntmps10
      go_upto_region 1 with fail
      rw [← hc, ← hW0]
      clear hW0 hc
      go_wp2_with fail
      refine Calls.mono HF.out ?_
      rintro e' W1 ⟨v, rfl, ho, hl⟩
      have HB1 := Lib.hid (HB0.out.trans (hl.mono HB0.out.size))
      obtain ⟨a', cp', rfl, hvv⟩ := isVals1 ho
      have HVV := Lib.hid hvv
      have HL1 := Lib.hid (HL0.out.below hl)
      have s1 := (hl.cell (p := ⟨c, 0, none⟩) hlc).trans s0
      have hlc1 := Nat.lt_of_lt_of_le hlc hl.size
      clear hl ho hvv x0 x1 x2 x3 x4 y0 y1 y2 s0 hlc
      obtain ⟨W3, hW3⟩ : ∃ W, W = W1.alloc (.cells #[.func (.func 31) #[] #[.pointer (some ⟨c, 0, none⟩)]] 61) := ⟨_, rfl⟩
      obtain ⟨cf, hcf⟩ : ∃ q, q = W1.heap.size := ⟨_, rfl⟩
      have hl : Below W1.heap.size W1 W3 := by rw [hW3]; exact (Below.refl _ _).alloc (Nat.le_refl _) _
      have HB3 := Lib.hid (HB1.out.trans (hl.mono HB1.out.size))
      have HCB : Hid (CmpBox W3 cf c L) := Lib.hid ⟨by rw [hW3]; exact (top_cell _ _ _ _ _ hcf).trans rfl, by rw [hW3, hcf]; exact top_lt _ _, ⟨a, n, cap, HN.out, (by have := (labels_few (fitE_zero HE.out).1).1; have := HN.out; omega), (hl.cell (p := ⟨c, 0, none⟩) hlc1).trans s1, Nat.lt_of_lt_of_le hlc1 hl.size, HL1.out.below hl⟩⟩
      have HMF := Lib.hid (minFunc_any 33 enCmp #[.pointer (some ⟨cf, 0, none⟩)] (czL L) (fun W => CmpBox W cf c L) (fun _ _ h hb => h.below hb) m0 l (fun x' y' W hx hy hJ => czL_any L (fitE_zero HE.out).1 cf c x' y' W (fitR_at (by rw [HRR.out]; exact hx)) (fitR_at (by rw [HRR.out]; exact hy)) hJ) (by
        have h1 : (fitR x A L).length ≤ L.length := by unfold fitR; split; exact fitL_len _ _ _ _; simp
        have h2 := (labels_few (fitE_zero HE.out).1).1
        rw [HRR.out] at h1
        simp at h1
        omega) a' fn cp' W3 (by have := HFN.out; simpa using this.symm) (HVV.out.below hl (Nat.le_refl _)) HCB.out)
      clear hl
      go_upto_region 7 with fail
      rw [← hW3, ← hcf]
      clear hW3 hcf s1
      go_wp2_with fail
      refine Calls.mono HMF.out ?_
      rintro e' W4 ⟨rfl, hl⟩
      have HB4 := Lib.hid (HB3.out.trans (hl.mono HB3.out.size))
      clear hl
      go_wp2_with fail
      go_ret2
      exact ⟨by rw [HV.out.1, HV.out.2]; rfl, HB4.out⟩
  · have HNE := Lib.hid he
    have he2 : (E != 0) = true := by simpa using he
    clear he
    go_enter Try.func10, Try.ntmps10
    go_upto_region 1 with fail
    rw [← hc, ← hW0]
    clear hW0 hc
    go_wp2_with fail
    refine Calls.mono HF.out ?_
    rintro e' W1 ⟨v, rfl, ho, hl⟩
    have HB1 := Lib.hid (HB0.out.trans (hl.mono HB0.out.size))
    clear hl ho
    go_wp2_with fail
    go_ret2
    exact best_bad HE.out HNE.out HB1.out
end Go.Proofs.Ytnfmopmcckgfdaa
