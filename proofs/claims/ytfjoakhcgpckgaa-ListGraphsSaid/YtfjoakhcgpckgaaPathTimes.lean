/- Contract: the times of things; the program's. -/
import Derived.Test.YtfjoakhcgpckgaaPathCheck
import Derived.StillTailTactics
import Derived.Deep.DeepCutAuto
namespace Go.Proofs.Ytfjoakhcgpckgaa
open Go.ChangeShapes Go.WideShapes Go.ChangeAt Go.RowKit
set_option linter.unusedVariables false
open Gr (El Tm)
theorem infoI64 : (Try.prog.info? 2).map (fun i => (i.zero, i.size, i.bytes)) = some (some (.int .i64 0), 1, 8) := by kernel_rfl
def i64s (f : Tm) (i : Nat) : Value := .int .i64 (f i)
def planF (n ge gl : Nat) (S : Int) (i : Nat) : Value := if i = 0 then .slice (some ⟨ge, 0, none⟩) n n else if i = 1 then .slice (some ⟨gl, 0, none⟩) n n else .int .i64 S
/-- a plan under way: its two rows and its variable -/
structure PW (n ge gl gp : Nat) (E T : Tm) (S : Int) (w wr : World) : Prop where
  early : wr.rowIs ge 2 n (i64s E)
  late : wr.rowIs gl 2 n (i64s T)
  var : wr.rowIs gp 55 3 (planF n ge gl S)
  el : ge ≠ gl
  ep : ge ≠ gp
  lp : gl ≠ gp
  fe : w.heap.size ≤ ge
  fl : w.heap.size ≤ gl
  fp : w.heap.size ≤ gp
  below : Below w.heap.size w wr
theorem PW.step {n ge gl gp : Nat} {E T : Tm} {S : Int} {w wr w' : World} (h : PW n ge gl gp E T S w wr) (hb : Below wr.heap.size wr w') : PW n ge gl gp E T S w w' :=
  ⟨rowIs_below h.early hb h.early.lt, rowIs_below h.late hb h.late.lt, rowIs_below h.var hb h.var.lt, h.el, h.ep, h.lp, h.fe, h.fl, h.fp, h.below.trans (hb.mono h.below.size)⟩
theorem PW.setE {n ge gl gp : Nat} {E T : Tm} {S : Int} {w wr : World} (h : PW n ge gl gp E T S w wr) (i : Nat) (v : Int) : PW n ge gl gp (Gr.upd E i v) T S w (wr.setCell ⟨ge, i, none⟩ (.int .i64 v)) :=
  ⟨(h.early.set i _).congr fun j _ => by unfold i64s Gr.upd; split <;> rfl, h.late.setOther (fun e => h.el e.symm) _, h.var.setOther (fun e => h.ep e.symm) _, h.el, h.ep, h.lp, h.fe, h.fl, h.fp, h.below.setCell h.fe _⟩
theorem PW.setL {n ge gl gp : Nat} {E T : Tm} {S : Int} {w wr : World} (h : PW n ge gl gp E T S w wr) (i : Nat) (v : Int) : PW n ge gl gp E (Gr.upd T i v) S w (wr.setCell ⟨gl, i, none⟩ (.int .i64 v)) :=
  ⟨h.early.setOther h.el _, (h.late.set i _).congr fun j _ => by unfold i64s Gr.upd; split <;> rfl, h.var.setOther (fun e => h.lp e.symm) _, h.el, h.ep, h.lp, h.fe, h.fl, h.fp, h.below.setCell h.fl _⟩
theorem PW.setS {n ge gl gp : Nat} {E T : Tm} {S : Int} {w wr : World} (h : PW n ge gl gp E T S w wr) (v : Int) : PW n ge gl gp E T v w (wr.setCell ⟨gp, 2, none⟩ (.int .i64 v)) :=
  ⟨h.early.setOther h.ep _, h.late.setOther h.lp _, (h.var.set 2 _).congr fun j hj => by
    unfold planF
    have : j = 0 ∨ j = 1 ∨ j = 2 := by omega
    rcases this with rfl | rfl | rfl <;> rfl, h.el, h.ep, h.lp, h.fe, h.fl, h.fp, h.below.setCell h.fp _⟩
theorem PW.congr {n ge gl gp : Nat} {E T E' T' : Tm} {S S' : Int} {w wr : World} (h : PW n ge gl gp E T S w wr) (hE : ∀ i, i < n → E i = E' i) (hT : ∀ i, i < n → T i = T' i) (hS : S = S') : PW n ge gl gp E' T' S' w wr :=
  ⟨h.early.congr fun i hi => by unfold i64s; rw [hE i hi], h.late.congr fun i hi => by unfold i64s; rw [hT i hi], hS ▸ h.var, h.el, h.ep, h.lp, h.fe, h.fl, h.fp, h.below⟩
theorem plan_var (w : World) (n ge gl : Nat) {H : Nat} (h : w.heap.size = H) : (w.alloc (.cells #[.slice (some ⟨ge, 0, none⟩) n n, .slice (some ⟨gl, 0, none⟩) n n, .int .i64 0] 55)).rowIs H 55 3 (planF n ge gl 0) := by
  subst h
  refine World.rowIs_alloc w _ _ _ fun i hi => ?_
  have hi : i < 3 := hi
  have : i = 0 ∨ i = 1 ∨ i = 2 := by omega
  rcases this with rfl | rfl | rfl <;> rfl
def planZ (i : Nat) : Value := if i = 0 then .slice none 0 0 else if i = 1 then .slice none 0 0 else .int .i64 0
theorem plan_res (w : World) : (w.alloc (.cells #[.slice none 0 0, .slice none 0 0, .int .i64 0] 55)).rowIs w.heap.size 55 3 planZ := by
  refine World.rowIs_alloc w _ _ _ fun i hi => ?_
  have hi : i < 3 := hi
  have : i = 0 ∨ i = 1 ∨ i = 2 := by omega
  rcases this with rfl | rfl | rfl <;> rfl
theorem plan_make {n ge gl gp : Nat} {w wr : World} (he : wr.rowIs ge 2 n (fun _ => .int .i64 0)) (hl : wr.rowIs gl 2 n (fun _ => .int .i64 0)) (hv : wr.rowIs gp 55 3 (planF n ge gl 0)) (h1 : ge ≠ gl) (h2 : ge ≠ gp) (h3 : gl ≠ gp) (h4 : w.heap.size ≤ ge) (h5 : w.heap.size ≤ gl) (h6 : w.heap.size ≤ gp) (hb : Below w.heap.size w wr) :
    PW n ge gl gp (fun _ => 0) (fun _ => 0) 0 w wr.drew := ⟨he.drew, hl.drew, hv.drew, h1, h2, h3, h4, h5, h6, hb.drew⟩
theorem plan_0 (w : World) (n : Nat) : ∃ ge gl gp, Value.pointer (some ⟨w.heap.size + 1 + 1, 0, none⟩) = .pointer (some ⟨gp, 0, none⟩) ∧ PW n ge gl gp (fun _ => 0) (fun _ => 0) 0 w (((w.alloc (.cells (madeCells #[.int .i64 0] n) 2)).alloc (.cells (madeCells #[.int .i64 0] n) 2)).alloc (.cells #[.slice (some ⟨w.heap.size, 0, none⟩) n n, .slice (some ⟨w.heap.size + 1, 0, none⟩) n n, .int .i64 0] 55)).drew :=
  ⟨w.heap.size, w.heap.size + 1, w.heap.size + 1 + 1, rfl, plan_make (((rowIs_made_at _ _ _ _ rfl).alloc _).alloc _) ((rowIs_made_at _ _ _ _ (by simp)).alloc _) (plan_var _ _ _ _ (by simp)) (by omega) (by omega) (by omega) (by omega) (by omega) (by omega) (by go_grown)⟩
theorem plan_1 (w : World) (n : Nat) : ∃ ge gl gp, Value.pointer (some ⟨w.heap.size + 1, 0, none⟩) = .pointer (some ⟨gp, 0, none⟩) ∧ PW n ge gl gp (fun _ => 0) (fun _ => 0) 0 w (((w.alloc (.cells (madeCells #[.int .i64 0] n) 2)).alloc (.cells #[.slice (some ⟨w.heap.size, 0, none⟩) n n, .slice (some ⟨w.heap.size + 1 + 1, 0, none⟩) n n, .int .i64 0] 55)).alloc (.cells (madeCells #[.int .i64 0] n) 2)).drew :=
  ⟨w.heap.size, w.heap.size + 1 + 1, w.heap.size + 1, rfl, plan_make (((rowIs_made_at _ _ _ _ rfl).alloc _).alloc _) (rowIs_made_at _ _ _ _ (by simp)) ((plan_var _ _ _ _ (by simp)).alloc _) (by omega) (by omega) (by omega) (by omega) (by omega) (by omega) (by go_grown)⟩
theorem plan_2 (w : World) (n : Nat) : ∃ ge gl gp, Value.pointer (some ⟨w.heap.size + 1 + 1, 0, none⟩) = .pointer (some ⟨gp, 0, none⟩) ∧ PW n ge gl gp (fun _ => 0) (fun _ => 0) 0 w (((w.alloc (.cells (madeCells #[.int .i64 0] n) 2)).alloc (.cells (madeCells #[.int .i64 0] n) 2)).alloc (.cells #[.slice (some ⟨w.heap.size + 1, 0, none⟩) n n, .slice (some ⟨w.heap.size, 0, none⟩) n n, .int .i64 0] 55)).drew :=
  ⟨w.heap.size + 1, w.heap.size, w.heap.size + 1 + 1, rfl, plan_make ((rowIs_made_at _ _ _ _ (by simp)).alloc _) (((rowIs_made_at _ _ _ _ rfl).alloc _).alloc _) (plan_var _ _ _ _ (by simp)) (by omega) (by omega) (by omega) (by omega) (by omega) (by omega) (by go_grown)⟩
theorem plan_3 (w : World) (n : Nat) : ∃ ge gl gp, Value.pointer (some ⟨w.heap.size + 1, 0, none⟩) = .pointer (some ⟨gp, 0, none⟩) ∧ PW n ge gl gp (fun _ => 0) (fun _ => 0) 0 w (((w.alloc (.cells (madeCells #[.int .i64 0] n) 2)).alloc (.cells #[.slice (some ⟨w.heap.size + 1 + 1, 0, none⟩) n n, .slice (some ⟨w.heap.size, 0, none⟩) n n, .int .i64 0] 55)).alloc (.cells (madeCells #[.int .i64 0] n) 2)).drew :=
  ⟨w.heap.size + 1 + 1, w.heap.size, w.heap.size + 1, rfl, plan_make (rowIs_made_at _ _ _ _ (by simp)) (((rowIs_made_at _ _ _ _ rfl).alloc _).alloc _) ((plan_var _ _ _ _ (by simp)).alloc _) (by omega) (by omega) (by omega) (by omega) (by omega) (by omega) (by go_grown)⟩
theorem plan_4 (w : World) (n : Nat) : ∃ ge gl gp, Value.pointer (some ⟨w.heap.size, 0, none⟩) = .pointer (some ⟨gp, 0, none⟩) ∧ PW n ge gl gp (fun _ => 0) (fun _ => 0) 0 w (((w.alloc (.cells #[.slice (some ⟨w.heap.size + 1, 0, none⟩) n n, .slice (some ⟨w.heap.size + 1 + 1, 0, none⟩) n n, .int .i64 0] 55)).alloc (.cells (madeCells #[.int .i64 0] n) 2)).alloc (.cells (madeCells #[.int .i64 0] n) 2)).drew :=
  ⟨w.heap.size + 1, w.heap.size + 1 + 1, w.heap.size, rfl, plan_make ((rowIs_made_at _ _ _ _ (by simp)).alloc _) (rowIs_made_at _ _ _ _ (by simp)) (((plan_var _ _ _ _ rfl).alloc _).alloc _) (by omega) (by omega) (by omega) (by omega) (by omega) (by omega) (by go_grown)⟩
theorem plan_5 (w : World) (n : Nat) : ∃ ge gl gp, Value.pointer (some ⟨w.heap.size, 0, none⟩) = .pointer (some ⟨gp, 0, none⟩) ∧ PW n ge gl gp (fun _ => 0) (fun _ => 0) 0 w (((w.alloc (.cells #[.slice (some ⟨w.heap.size + 1 + 1, 0, none⟩) n n, .slice (some ⟨w.heap.size + 1, 0, none⟩) n n, .int .i64 0] 55)).alloc (.cells (madeCells #[.int .i64 0] n) 2)).alloc (.cells (madeCells #[.int .i64 0] n) 2)).drew :=
  ⟨w.heap.size + 1 + 1, w.heap.size + 1, w.heap.size, rfl, plan_make (rowIs_made_at _ _ _ _ (by simp)) ((rowIs_made_at _ _ _ _ (by simp)).alloc _) (((plan_var _ _ _ _ rfl).alloc _).alloc _) (by omega) (by omega) (by omega) (by omega) (by omega) (by omega) (by go_grown)⟩
theorem max_if (v u : Int) : (if v < u then u else v) = max v u := by rw [Int.max_def]; split <;> split <;> omega
theorem min_if (v u : Int) : (if u < v then u else v) = min v u := by rw [Int.min_def]; split <;> split <;> omega
def dur (D : List Int) : Tm := fun i => D.getD i 0
theorem EK_zero {n : Nat} {L : El} {d : Tm} {row : List Nat} (hT : Gr.Topo n L row) {s i : Nat} (hs : row[s]? = some i) : ∀ t, t ≤ s → Gr.EK L d row t i = 0
  | 0, _ => rfl
  | t + 1, h => by
    have ih := EK_zero (d := d) hT hs t (by omega)
    cases hr : row[t]? with
    | none => simp [Gr.EK, hr, ih]
    | some j =>
      rw [Gr.EK_go hr, Gr.upd_other _ _ (fun e => ?_), ih]
      rw [e] at hs
      have := hT.inj s t j hs hr
      omega
/-- the times that path.Times gives: two fresh rows and the span -/
def TimesPost (n : Nat) (L : El) (D : List Int) (w : World) (e : Ending) (w' : World) : Prop :=
  ∃ (ge gl : Nat) (E T : Tm) (S : Int), e = .returned (.tuple #[.agg #[.slice (some ⟨ge, 0, none⟩) n n, .slice (some ⟨gl, 0, none⟩) n n, .int .i64 S], .int .i64 0]) ∧
    Gr.IsE n L (dur D) E ∧ Gr.IsS n (dur D) E S ∧ Gr.IsL n L (dur D) S T ∧ w'.rowIs ge 2 n (i64s E) ∧ w'.rowIs gl 2 n (i64s T) ∧ ge ≠ gl ∧ w.heap.size ≤ ge ∧ w.heap.size ≤ gl ∧ Below w.heap.size w w'
set_option maxRecDepth 100000 in
set_option maxHeartbeats 4000000 in
theorem Times_good (n : Nat) (L : El) (D : List Int) (a b : Option Addr) (l cap m cap2 : Nat) (w : World) (hn : l = L.length) (hL : Edges w a L) (hm : m = D.length) (hD : Vals w b (ints D)) (hF : Fine n L D) :
    Calls Try.prog 29 #[.int .i64 n, .slice a l cap, .slice b m cap2] w fun e w' => TimesPost n L D w e w' := by
  have HL := Lib.hid hL
  have HN := Lib.hid hn
  have HD := Lib.hid hD
  have HM := Lib.hid hm
  have HF := Lib.hid hF
  obtain ⟨_, z1, _, _, g2, g3⟩ := graphE_good hF.g
  have HO := Lib.hid (okG g3)
  have HT := Lib.hid (Gr.topo (okG g3) hF.k)
  obtain rfl : n = m := by have := hF.len; omega
  have hl4 : l ≤ 400 := by omega
  have h60 : n ≤ 60 := by omega
  clear hL hn hD hm hF g3
  have hmk := run_make_row' (P := Try.prog) 36 2 (.int .i64 0) 8 Try.underlying36 infoI64 rfl .i64 .i64 n (by omega) (by omega)
  go_enter Try.func29, Try.ntmps29
  go_upto_region 4 with (go_at_call 114; refine Calls.mono (pcheck_good n L D _ _ _ _ _ _ _ HN.out (HL.out.below (show Below w.heap.size w _ from (Below.refl _ _).alloc (Nat.le_refl _) _) (Nat.le_refl _)) HM.out (HD.out.below (show Below w.heap.size w _ from (Below.refl _ _).alloc (Nat.le_refl _) _) (Nat.le_refl _)) HF.out) ?_; rintro e w1 ⟨v1, rfl, i1, hB1⟩; obtain ⟨a1, c1, rfl, j1⟩ := i1; have HJ := Lib.hid j1; clear j1; have HB1 := Lib.hid ((show Below w.heap.size w _ from (Below.refl _ _).alloc (Nat.le_refl _) _).trans (hB1.mono (by simp))); have HRES := Lib.hid (rowIs_below (plan_res w) hB1 (by simp)); clear hB1; rw [nats_length, HT.out.len])
  go_cut [10] (fun p W => ∃ ge gl gp, p = .pointer (some ⟨gp, 0, none⟩) ∧ PW n ge gl gp (fun _ => 0) (fun _ => 0) 0 w1 W)
  case first =>
    go_region
    all_goals
      go_wp2_with fail
      go_meet
    · exact plan_0 w1 n
    · exact plan_1 w1 n
    · exact plan_2 w1 n
    · exact plan_3 w1 n
    · exact plan_4 w1 n
    · exact plan_5 w1 n
  case rest =>
    obtain ⟨ge, gl, gp, rfl, hW⟩ := hcut
    have HW := Lib.hid hW
    clear hW hmk
    obtain ⟨row, hrow⟩ : ∃ r, r = (Gr.steps n L n).row := ⟨_, rfl⟩
    rw [← hrow] at HT HJ
    clear hrow
    have HE := Lib.hid (Gr.EK_is (d := dur D) HO.out HT.out)
    have HDUR : Hid (∀ i, i < n → D[i]? = some (dur D i) ∧ 0 ≤ dur D i ∧ dur D i ≤ 1000000000) := Lib.hid fun i hi => by
      have hx : D[i]? = some D[i] := List.getElem?_eq_getElem (by have := HM.out; omega)
      have e : dur D i = D[i] := by simp [dur, List.getD, hx]
      rw [e]
      exact ⟨hx, okD_at HF.out.d hx⟩
    have HBD : Hid (∀ i, i < n → 0 ≤ Gr.EK L (dur D) row n i ∧ Gr.EK L (dur D) row n i ≤ 60000000000) := Lib.hid fun i hi => by
      refine ⟨HE.out.pos i hi, ?_⟩
      have h1 := Gr.early_bound HT.out HE.out (M := 1000000000) (by omega) (fun i hi => (HDUR.out i hi).2.2) HO.out i hi
      have h2 : (n : Int) * 1000000000 ≤ 60 * 1000000000 := Int.mul_le_mul_of_nonneg_right (by omega) (by omega)
      omega
    have HL1 := Lib.hid (HL.out.below HB1.out (Nat.le_refl _))
    have HD1 := Lib.hid (HD.out.below HB1.out (Nat.le_refl _))
    have hs1 := HB1.out.size
    go_wp2_with fail
    go_loopw [38] (fun x wr => ∃ t : Nat, t ≤ n ∧ x = .int .i64 t ∧ Hid (PW n ge gl gp (Gr.EK L (dur D) row t) (fun _ => 0) (Gr.SK (dur D) (Gr.EK L (dur D) row n) row t) w1 wr)) (fun x _ => n - (intOf x).toNat)
    case atStart => exact ⟨0, by omega, rfl, HW⟩
    case round =>
      clear HW
      obtain ⟨t, ht, rfl, HW⟩ := hrel
      have hsz := HW.out.below.size
      by_cases htn : t < n
      · obtain ⟨i, hi⟩ : ∃ i, row[t]? = some i := ⟨_, List.getElem?_eq_getElem (by rw [HT.out.len]; exact htn)⟩
        have hin := HT.out.lt i (List.mem_of_getElem? hi)
        obtain ⟨b1, o1, rfl, hb1, hat1⟩ := HJ.out (by rw [nats_length, HT.out.len]; omega)
        have c0 := (HW.out.below.cell (p := ⟨b1, o1 + t, none⟩) hb1).trans (hat1 t (nat1 i) (by simp [nats, hi]))
        unfold nat1 at c0
        have hb1r : b1 < wr.heap.size := by omega
        have HI := Lib.hid hi
        have HPRE : Hid (∀ (k : Nat) (x y : Int), L[k]? = some (x, y) → y = (i : Int) → 0 ≤ x ∧ x.toNat < n ∧ x.toNat ≠ i ∧ Gr.EK L (dur D) row t x.toNat = Gr.EK L (dur D) row n x.toNat) := Lib.hid fun k x y hx hy => by
          obtain ⟨q1, q2, _, _⟩ := HO.out _ (List.mem_of_getElem? hx)
          simp only at q1 q2
          have he : Gr.ed L x.toNat i := by
            unfold Gr.ed
            rw [show ((x.toNat : Nat) : Int) = x from by omega, ← hy]
            exact List.mem_of_getElem? hx
          obtain ⟨s, hs, hs2⟩ := HT.out.pred t i x.toNat HI.out he
          refine ⟨q1, by omega, fun e => ?_, ?_⟩
          · rw [e] at hs2
            have := HT.out.inj s t i hs2 HI.out
            omega
          · rw [Gr.EK_keep HT.out hs2 t hs (by omega), Gr.EK_keep HT.out hs2 n (by omega) (Nat.le_refl _)]
        have HZ := Lib.hid (EK_zero (L := L) (d := dur D) HT.out hi t (Nat.le_refl _))
        clear hat1 hi
        have HW2 : Hid (PW n ge gl gp (Gr.upd (Gr.EK L (dur D) row t) i (Gr.valE L (dur D) (Gr.EK L (dur D) row t) i 0)) (fun _ => 0) (Gr.SK (dur D) (Gr.EK L (dur D) row n) row t) w1 wr) := Lib.hid (HW.out.congr (fun j hj => by
          unfold Gr.upd
          by_cases e : j = i
          · rw [if_pos e, e]; exact HZ.out
          · rw [if_neg e]) (fun _ _ => rfl) rfl)
        go_wp2_with fail
        go_loopw [44] (fun x wx => ∃ k : Nat, k ≤ l ∧ x = .int .i64 k ∧ Hid (PW n ge gl gp (Gr.upd (Gr.EK L (dur D) row t) i (Gr.valE L (dur D) (Gr.EK L (dur D) row t) i k)) (fun _ => 0) (Gr.SK (dur D) (Gr.EK L (dur D) row n) row t) w1 wx)) (fun x _ => l - (intOf x).toNat)
        case atStart => exact ⟨0, by omega, rfl, HW2⟩
        case round =>
          clear HW HW2 c0
          obtain ⟨k, hk, rfl, HW⟩ := hrel
          have hsz2 := HW.out.below.size
          by_cases hkl : k < l
          · obtain ⟨b, off, rfl, hb, hat⟩ := HL1.out (by have := HN.out; omega)
            obtain ⟨⟨x, y⟩, hx⟩ : ∃ x, L[k]? = some x := ⟨_, List.getElem?_eq_getElem (by have := HN.out; omega)⟩
            obtain ⟨q0, q1⟩ := hat.below HW.out.below hb k x y hx
            have hbr : b < wr.heap.size := by omega
            have HGO := Lib.hid (Gr.valE_go hx (dur D) (Gr.EK L (dur D) row t) i)
            have HP := Lib.hid (HPRE.out k x y hx)
            clear hat hx
            by_cases hy : y = (i : Int)
            · have hyb : (y == (i : Int)) = true := by simp [hy]
              obtain ⟨x0, xn, xi, xe⟩ := HP.out hy
              obtain ⟨j, rfl⟩ := Int.eq_ofNat_of_zero_le x0
              rw [Int.toNat_natCast] at xn xi xe
              have HGO2 := Lib.hid (HGO.out.trans (if_pos hy))
              obtain ⟨bd, od, rfl, hbd, hatd⟩ := HD1.out (by simp [ints]; have := HM.out; omega)
              obtain ⟨W, hW⟩ : ∃ W, W = wr.alloc (.cells #[.int .i64 (j : Int), .int .i64 y] 66) := ⟨_, rfl⟩
              have HWW := Lib.hid (show PW n ge gl gp (Gr.upd (Gr.EK L (dur D) row t) i (Gr.valE L (dur D) (Gr.EK L (dur D) row t) i k)) (fun _ => 0) (Gr.SK (dur D) (Gr.EK L (dur D) row n) row t) w1 W from by rw [hW]; exact HW.out.step ((Below.refl _ _).alloc (Nat.le_refl _) _))
              have g0 : W.cell? ⟨wr.heap.size, 0, none⟩ = some (.int .i64 (j : Int)) := by rw [hW, cell_of_row _ _ 0 _ _ (0, 0) (heap_alloc_new wr _)]; rfl
              have g1 : W.cell? ⟨wr.heap.size, 1, none⟩ = some (.int .i64 y) := by rw [hW, cell_of_row _ _ 1 _ _ (0, 0) (heap_alloc_new wr _)]; rfl
              have d1 := (HWW.out.below.cell (p := ⟨bd, od + j, none⟩) hbd).trans (hatd j (.int .i64 (dur D j)) (by simp [ints, (HDUR.out j xn).1]))
              obtain ⟨_, dj0, dj1⟩ := HDUR.out j xn
              obtain ⟨ej0, ej1⟩ := HBD.out j xn
              have e1 := HWW.out.early.cell hin
              have e2 := HWW.out.early.cell xn
              have e3 := HWW.out.early.frozen i
              have p0 : W.cell? ⟨gp, 0, none⟩ = some (.slice (some ⟨ge, 0, none⟩) n n) := HWW.out.var.cell (i := 0) (by omega)
              have hgel := HWW.out.early.lt
              have hgpl := HWW.out.var.lt
              unfold i64s at e1 e2
              rw [Gr.upd_same] at e1
              rw [Gr.upd_other _ _ xi, xe] at e2
              have HST : Hid (∀ v : Int, PW n ge gl gp (Gr.upd (Gr.EK L (dur D) row t) i v) (fun _ => 0) (Gr.SK (dur D) (Gr.EK L (dur D) row n) row t) w1 (W.setCell ⟨ge, i, none⟩ (.int .i64 v))) := Lib.hid fun v => (HWW.out.setE i v).congr (fun z _ => by unfold Gr.upd; split <;> rfl) (fun _ _ => rfl) rfl
              rw [Int.toNat_natCast, xe] at HGO2
              generalize dur D j = dj at *
              generalize Gr.EK L (dur D) row n j = ej at *
              generalize Gr.valE L (dur D) (Gr.EK L (dur D) row t) i k = v at *
              have hi1 : (0 : Int) ≤ (i : Int) := by omega
              have hi2 : (i : Int) < (n : Int) := by omega
              have hj1 : (0 : Int) ≤ (j : Int) := by omega
              have hj2 : (j : Int) < (n : Int) := by omega
              have hw1 : IntKind.i64.wrap (ej + dj) = ej + dj := IntWalk.i64_in _ (by omega)
              have HWE := Lib.hid hW
              clear hatd hy xe hW
              go_wp2_with fail
              rw [← HWE.out]
              go_still_tail 22, (by kernel_rfl)
              change wpList _ _ _ _ _ W.drew
              go_wp2_with fail
              go_roundw
              case rel => exact ⟨k + 1, by omega, rfl, Lib.hid (by rw [HGO2.out, max_if]; exact (HST.out _).step ((Below.refl _ _).drew))⟩
              case measure => simp [intOf]; omega
            · have hyb : (y == (i : Int)) = false := by simp [hy]
              have HGO2 := Lib.hid (HGO.out.trans (if_neg hy))
              have HW3 := Lib.hid (HW.out.step ((Below.refl wr.heap.size wr).alloc (Nat.le_refl _) (.cells #[.int .i64 x, .int .i64 y] 66)))
              clear hy
              go_wp2_with fail
              go_roundw
              case rel => exact ⟨k + 1, by omega, rfl, by rw [HGO2.out]; exact HW3⟩
              case measure => simp [intOf]; omega
          · have hkL : Hid (k = L.length) := Lib.hid (by have := HN.out; omega)
            have HEI := Lib.hid (show Gr.valE L (dur D) (Gr.EK L (dur D) row t) i k = Gr.EK L (dur D) row n i from by
              rw [hkL.out, Gr.EK_keep HT.out HI.out n htn (Nat.le_refl _), Gr.EK_go HI.out, Gr.upd_same])
            have HEK := Lib.hid (show Gr.EK L (dur D) row (t + 1) = Gr.upd (Gr.EK L (dur D) row t) i (Gr.EK L (dur D) row n i) from by
              rw [Gr.EK_go HI.out, ← HEI.out, hkL.out])
            have HSK := Lib.hid (Gr.SK_go (d := dur D) (E := Gr.EK L (dur D) row n) HI.out)
            have HW3 := Lib.hid HW.out
            rw [HEI.out, ← HEK.out] at HW3
            obtain ⟨bd, od, rfl, hbd, hatd⟩ := HD1.out (by simp [ints]; have := HM.out; omega)
            have d1 := (HW3.out.below.cell (p := ⟨bd, od + i, none⟩) hbd).trans (hatd i (.int .i64 (dur D i)) (by simp [ints, (HDUR.out i hin).1]))
            obtain ⟨_, dj0, dj1⟩ := HDUR.out i hin
            obtain ⟨ej0, ej1⟩ := HBD.out i hin
            have e1 := HW3.out.early.cell hin
            have p0 : wr.cell? ⟨gp, 0, none⟩ = some (.slice (some ⟨ge, 0, none⟩) n n) := HW3.out.var.cell (i := 0) (by omega)
            have p2 : wr.cell? ⟨gp, 2, none⟩ = some (.int .i64 (Gr.SK (dur D) (Gr.EK L (dur D) row n) row t)) := HW3.out.var.cell (i := 2) (by omega)
            have p3 := HW3.out.var.frozen 2
            have hgel := HW3.out.early.lt
            have hgpl := HW3.out.var.lt
            unfold i64s at e1
            rw [HEK.out, Gr.upd_same] at e1
            have HST : Hid (∀ v : Int, v = Gr.SK (dur D) (Gr.EK L (dur D) row n) row (t + 1) → PW n ge gl gp (Gr.EK L (dur D) row (t + 1)) (fun _ => 0) (Gr.SK (dur D) (Gr.EK L (dur D) row n) row (t + 1)) w1 (wr.setCell ⟨gp, 2, none⟩ (.int .i64 v))) := Lib.hid fun v hv => by rw [← hv]; exact HW3.out.setS v
            generalize dur D i = dj at *
            generalize Gr.EK L (dur D) row n i = ej at *
            generalize Gr.SK (dur D) (Gr.EK L (dur D) row n) row t = S at *
            have hi1 : (0 : Int) ≤ (i : Int) := by omega
            have hi2 : (i : Int) < (n : Int) := by omega
            have hw1 : IntKind.i64.wrap (ej + dj) = ej + dj := IntWalk.i64_in _ (by omega)
            clear hatd
            obtain ⟨W, hW⟩ : ∃ W, W = wr := ⟨_, rfl⟩
            subst hW
            go_wp2_with fail
            go_still_tail 14, (by kernel_rfl)
            change wpList _ _ _ _ _ W.drew
            go_wp2_with fail
            go_roundw
            case rel => exact ⟨t + 1, by omega, rfl, Lib.hid ((HST.out _ (by rw [HSK.out, max_if])).step ((Below.refl _ _).drew))⟩
            case measure => simp [intOf]; omega
      · obtain rfl : t = n := by omega
        have HS := Lib.hid (Gr.SK_is (d := dur D) (E := Gr.EK L (dur D) row t) HT.out)
        obtain ⟨E, hE⟩ : ∃ E, E = Gr.EK L (dur D) row t := ⟨_, rfl⟩
        rw [← hE] at HW HE HBD HS
        obtain ⟨S, hS⟩ : ∃ S, S = Gr.SK (dur D) E row t := ⟨_, rfl⟩
        rw [← hS] at HW HS
        have HLT := Lib.hid (Gr.LK_is (d := dur D) (S := S) HO.out HT.out)
        have HEL := Lib.hid (Gr.early_late HO.out HT.out HE.out HS.out HLT.out)
        have hSb : 0 ≤ S ∧ S ≤ 61000000000 := by
          refine ⟨HS.out.pos, ?_⟩
          rcases HS.out.eq with e | ⟨i, hi, e⟩
          · omega
          · have h1 := (HBD.out i hi).2
            have h2 := (HDUR.out i hi).2.2
            omega
        obtain ⟨hS0, hS1⟩ := hSb
        have HES := Lib.hid hE
        have HSS := Lib.hid hS
        clear hE hS
        go_wp2_with fail
        have HW0 : Hid (PW t ge gl gp E (Gr.LK L (dur D) S row 0) S w1 wr) := HW
        clear HW
        go_loopw [92] (fun x wx => ∃ k : Nat, k ≤ t ∧ x = .int .i64 k ∧ Hid (PW t ge gl gp E (Gr.LK L (dur D) S row k) S w1 wx)) (fun x _ => t - (intOf x).toNat)
        case atStart => exact ⟨0, by omega, rfl, HW0⟩
        case round =>
          clear HW0
          obtain ⟨k, hk, rfl, HW⟩ := hrel
          have hsz3 := HW.out.below.size
          by_cases hkt : k < t
          · obtain ⟨i, hi⟩ : ∃ i, row[t - 1 - k]? = some i := ⟨_, List.getElem?_eq_getElem (by rw [HT.out.len]; omega)⟩
            have hin := HT.out.lt i (List.mem_of_getElem? hi)
            obtain ⟨b1, o1, rfl, hb1, hat1⟩ := HJ.out (by rw [nats_length, HT.out.len]; omega)
            have c0 := (HW.out.below.cell (p := ⟨b1, o1 + (t - 1 - k), none⟩) hb1).trans (hat1 (t - 1 - k) (nat1 i) (by simp [nats, hi]))
            unfold nat1 at c0
            have hb1r : b1 < wr.heap.size := by omega
            have HLK := Lib.hid (Gr.LK_go (L := L) (d := dur D) (S := S) (t := k) (show row[row.length - 1 - k]? = some i from by rw [HT.out.len]; exact hi))
            have HLE := Lib.hid (show Gr.LK L (dur D) S row (k + 1) i = Gr.LK L (dur D) S row t i from (Gr.LK_keep HT.out hkt hi t hkt (Nat.le_refl _)).symm)
            have HV : Hid (0 ≤ Gr.valL L S (Gr.LK L (dur D) S row k) i L.length ∧ Gr.valL L S (Gr.LK L (dur D) S row k) i L.length ≤ S) := Lib.hid (by
              have h1 := HLE.out
              rw [HLK.out, Gr.upd_same] at h1
              have h2 := HEL.out i hin
              have h3 := HLT.out.le i hin
              have h4 := (HBD.out i hin).1
              have h5 := (HDUR.out i hin).2.1
              omega)
            have HPRE : Hid (∀ (q : Nat) (x y : Int), L[q]? = some (x, y) → 0 ≤ y ∧ y.toNat < t) := Lib.hid fun q x y hx => by
              obtain ⟨q1, q2, q3, q4⟩ := HO.out _ (List.mem_of_getElem? hx)
              simp only at q1 q2 q3 q4
              omega
            have hki : ((t : Int) - 1 - k) = ((t - 1 - k : Nat) : Int) := by omega
            clear hat1 hi
            have p2 : wr.cell? ⟨gp, 2, none⟩ = some (.int .i64 S) := HW.out.var.cell (i := 2) (by omega)
            have hgpl := HW.out.var.lt
            have HW2 := HW
            clear HW
            go_wp2_with fail
            go_loopw [17, 107] (fun v x wx => ∃ q : Nat, q ≤ l ∧ v = .int .i64 (Gr.valL L S (Gr.LK L (dur D) S row k) i q) ∧ x = .int .i64 q ∧ Hid (PW t ge gl gp E (Gr.LK L (dur D) S row k) S w1 wx)) (fun _ x _ => l - (intOf x).toNat)
            case atStart => exact ⟨0, by omega, rfl, rfl, HW2⟩
            case round =>
              clear HW2 c0 p2
              obtain ⟨q, hq, rfl, rfl, HW⟩ := hrel
              have hsz4 := HW.out.below.size
              by_cases hql : q < l
              · obtain ⟨b, off, rfl, hb, hat⟩ := HL1.out (by have := HN.out; omega)
                obtain ⟨⟨x, y⟩, hx⟩ : ∃ x, L[q]? = some x := ⟨_, List.getElem?_eq_getElem (by have := HN.out; omega)⟩
                obtain ⟨q0, q1⟩ := hat.below HW.out.below hb q x y hx
                have hbr : b < wr.heap.size := by omega
                have HGO := Lib.hid (Gr.valL_go hx S (Gr.LK L (dur D) S row k) i)
                obtain ⟨y0, yn⟩ := HPRE.out q x y hx
                obtain ⟨j, rfl⟩ := Int.eq_ofNat_of_zero_le y0
                rw [Int.toNat_natCast] at yn
                clear hat hx
                by_cases hy : x = (i : Int)
                · have hyb : (x == (i : Int)) = true := by simp [hy]
                  have HGO2 := Lib.hid (HGO.out.trans (if_pos hy))
                  rw [Int.toNat_natCast] at HGO2
                  have HWW := Lib.hid (HW.out.step ((Below.refl wr.heap.size wr).alloc (Nat.le_refl _) (.cells #[.int .i64 x, .int .i64 (j : Int)] 66)))
                  have e2 := HWW.out.late.cell yn
                  have p1 : (wr.alloc (.cells #[.int .i64 x, .int .i64 (j : Int)] 66)).cell? ⟨gp, 1, none⟩ = some (.slice (some ⟨gl, 0, none⟩) t t) := HWW.out.var.cell (i := 1) (by omega)
                  have hgll := HWW.out.late.lt
                  have hgpl2 := HWW.out.var.lt
                  unfold i64s at e2
                  have hj2 : (j : Int) < (t : Int) := by omega
                  clear hy
                  go_wp2_with fail
                  go_roundw
                  case rel => exact ⟨q + 1, by omega, by rw [HGO2.out, min_if], rfl, HWW⟩
                  case measure => simp [intOf]; omega
                · have hyb : (x == (i : Int)) = false := by simp [hy]
                  have HGO2 := Lib.hid (HGO.out.trans (if_neg hy))
                  have HW3 := Lib.hid (HW.out.step ((Below.refl wr.heap.size wr).alloc (Nat.le_refl _) (.cells #[.int .i64 x, .int .i64 (j : Int)] 66)))
                  clear hy
                  go_wp2_with fail
                  go_roundw
                  case rel => exact ⟨q + 1, by omega, by rw [HGO2.out], rfl, HW3⟩
                  case measure => simp [intOf]; omega
              · have hqL : Hid (q = L.length) := Lib.hid (by have := HN.out; omega)
                have e0 : Gr.valL L S (Gr.LK L (dur D) S row k) i q = Gr.valL L S (Gr.LK L (dur D) S row k) i L.length := by rw [hqL.out]
                rw [e0]
                clear e0
                obtain ⟨bd, od, rfl, hbd, hatd⟩ := HD1.out (by simp [ints]; have := HM.out; omega)
                have d1 := (HW.out.below.cell (p := ⟨bd, od + i, none⟩) hbd).trans (hatd i (.int .i64 (dur D i)) (by simp [ints, (HDUR.out i hin).1]))
                obtain ⟨_, dj0, dj1⟩ := HDUR.out i hin
                obtain ⟨hv0, hv1⟩ := HV.out
                have e1 := HW.out.late.cell hin
                have e3 := HW.out.late.frozen i
                have p1 : wr.cell? ⟨gp, 1, none⟩ = some (.slice (some ⟨gl, 0, none⟩) t t) := HW.out.var.cell (i := 1) (by omega)
                have hgll := HW.out.late.lt
                have hgpl2 := HW.out.var.lt
                unfold i64s at e1
                have HST : Hid (∀ z : Int, z = Gr.valL L S (Gr.LK L (dur D) S row k) i L.length - dur D i → PW t ge gl gp E (Gr.LK L (dur D) S row (k + 1)) S w1 (wr.setCell ⟨gl, i, none⟩ (.int .i64 z))) := Lib.hid fun z hz => by
                  rw [HLK.out, ← hz]
                  exact HW.out.setL i z
                generalize dur D i = dj at *
                generalize Gr.valL L S (Gr.LK L (dur D) S row k) i L.length = v at *
                generalize Gr.LK L (dur D) S row k i = lt at *
                have hi1 : (0 : Int) ≤ (i : Int) := by omega
                have hi2 : (i : Int) < (t : Int) := by omega
                have hw1 : IntKind.i64.wrap (v - dj) = v - dj := IntWalk.i64_in _ (by omega)
                clear hatd
                obtain ⟨W, hW⟩ : ∃ W, W = wr := ⟨_, rfl⟩
                subst hW
                go_wp2_with fail
                go_still_tail 10, (by kernel_rfl)
                change wpList _ _ _ _ _ W.drew
                go_wp2_with fail
                go_roundw
                case rel => exact ⟨k + 1, by omega, rfl, Lib.hid ((HST.out _ rfl).step ((Below.refl _ _).drew))⟩
                case measure => simp [intOf]; omega
          · obtain rfl : k = t := by omega
            have p0 : wr.cell? ⟨gp, 0, none⟩ = some (.slice (some ⟨ge, 0, none⟩) k k) := HW.out.var.cell (i := 0) (by omega)
            have p1 : wr.cell? ⟨gp, 1, none⟩ = some (.slice (some ⟨gl, 0, none⟩) k k) := HW.out.var.cell (i := 1) (by omega)
            have p2 : wr.cell? ⟨gp, 2, none⟩ = some (.int .i64 S) := HW.out.var.cell (i := 2) (by omega)
            have HR := Lib.hid (rowIs_below HRES.out HW.out.below HRES.out.lt)
            have r0 := HR.out.cell (i := 0) (by omega)
            have r1 := HR.out.cell (i := 1) (by omega)
            have r2 := HR.out.cell (i := 2) (by omega)
            have f0 := HR.out.frozen 0
            have f1 := HR.out.frozen 1
            have f2 := HR.out.frozen 2
            have hrl := HR.out.lt
            have hgpl := HW.out.var.lt
            go_wp2_with fail
            have hR3 := ((HR.out.set 0 (.slice (some ⟨ge, 0, none⟩) k k)).set 1 (.slice (some ⟨gl, 0, none⟩) k k)).set 2 (.int .i64 S)
            have c0 := hR3.cell (i := 0) (by omega)
            have c1 := hR3.cell (i := 1) (by omega)
            have c2 := hR3.cell (i := 2) (by omega)
            simp only [if_true, if_false, reduceIte, Nat.reduceEqDiff] at c0 c1 c2
            have hrl1 := HRES.out.lt
            have hne1 : ge ≠ w.heap.size := fun e => by have := HW.out.fe; omega
            have hne2 : gl ≠ w.heap.size := fun e => by have := HW.out.fl; omega
            have hB := ((((HB1.out.trans (HW.out.below.mono hs1)).setCell (p := ⟨w.heap.size, 0, none⟩) (Nat.le_refl _) (.slice (some ⟨ge, 0, none⟩) k k)).setCell (p := ⟨w.heap.size, 1, none⟩) (Nat.le_refl _) (.slice (some ⟨gl, 0, none⟩) k k)).setCell (p := ⟨w.heap.size, 2, none⟩) (Nat.le_refl _) (.int .i64 S))
            refine bodyPost_ret (v := .tuple #[.agg #[.slice (some ⟨ge, 0, none⟩) k k, .slice (some ⟨gl, 0, none⟩) k k, .int .i64 S], .int .i64 0]) (by simp [results, Try.results29, go_sem, c0, c1, c2]) rfl ⟨ge, gl, E, _, S, rfl, HE.out, HS.out, HLT.out, ((HW.out.early.setOther hne1 _).setOther hne1 _).setOther hne1 _, ((HW.out.late.setOther hne2 _).setOther hne2 _).setOther hne2 _, HW.out.el, by have := HW.out.fe; omega, by have := HW.out.fl; omega, hB⟩
end Go.Proofs.Ytfjoakhcgpckgaa
