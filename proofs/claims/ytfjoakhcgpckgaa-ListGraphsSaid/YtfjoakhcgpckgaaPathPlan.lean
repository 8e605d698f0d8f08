/- Contract: the plan of things by raising and lowering; the document's. -/
import Derived.Test.YtfjoakhcgpckgaaPathGap
import Derived.Test.YtfjoakhcgpckgaaPathTimes
import Derived.Deep.LoopGhost
namespace Go.Proofs.Ytfjoakhcgpckgaa
open Go.ChangeShapes Go.WideShapes Go.ChangeAt Go.RowKit
set_option linter.unusedVariables false
open Gr (El Tm)
def bn (b : Bool) : Nat := if b then 1 else 0
/-- on the way up: the times, the flag, the rounds that are to come -/
structure PlUp (n : Nat) (L : El) (d E X : Tm) (b : Bool) (k : Nat) : Prop where
  up : Gr.UpE n E X
  no : b = false → ∀ i j, Gr.ed L j i → X j + d j ≤ X i
  lt : 2 * Gr.gap E X n + bn b ≤ k
/-- within a round -/
structure PlUpQ (n : Nat) (L : El) (d E X Y : Tm) (b : Bool) (q : Nat) : Prop where
  up : Gr.UpE n E Y
  no : b = false → Gr.gap E Y n ≤ Gr.gap E X n ∧ ∀ (p : Nat) (x y : Int), p < q → L[p]? = some (x, y) → Y x.toNat + d x.toNat ≤ Y y.toNat
  yes : b = true → Gr.gap E Y n < Gr.gap E X n
theorem PlUpQ.end {n : Nat} {L : El} {d E X Y : Tm} {b : Bool} {k : Nat} (h : PlUpQ n L d E X Y b L.length) (hk : 2 * Gr.gap E X n + 1 ≤ k) : 2 * Gr.gap E Y n + bn b < k ∧ PlUp n L d E Y b (2 * Gr.gap E Y n + bn b) := by
  refine ⟨?_, h.up, fun hb i j he => ?_, Nat.le_refl _⟩
  · cases b with
    | false => have := (h.no rfl).1; simp [bn]; omega
    | true => have := h.yes rfl; simp [bn]; omega
  · obtain ⟨p, hp, e⟩ := List.getElem_of_mem he
    have := (h.no hb).2 p j i hp (by rw [List.getElem?_eq_getElem hp, e])
    simpa using this
theorem PlUpQ.stay {n : Nat} {L : El} {d E X Y : Tm} {b : Bool} {q : Nat} {i j : Nat} (h : PlUpQ n L d E X Y b q) (hx : L[q]? = some ((j : Int), (i : Int))) (hle : Y j + d j ≤ Y i) : PlUpQ n L d E X Y b (q + 1) :=
  ⟨h.up, fun hb => ⟨(h.no hb).1, fun p x y hp hxy => by
    by_cases e : p = q
    · subst e
      rw [hx] at hxy
      obtain ⟨rfl, rfl⟩ := Prod.mk.inj (Option.some.inj hxy)
      simpa using hle
    · exact (h.no hb).2 p x y (by omega) hxy⟩, h.yes⟩
theorem PlUpQ.go {n : Nat} {L : El} {d E X Y : Tm} {b : Bool} {q : Nat} {i j : Nat} (h : PlUpQ n L d E X Y b q) (hE : Gr.IsE n L d E) (hO : Gr.Ok n L) (hd : 0 ≤ d j) (he : Gr.ed L j i) (hgt : Y i < Y j + d j) : PlUpQ n L d E X (Gr.upd Y i (Y j + d j)) true (q + 1) := by
  have a := h.up.le j (hO.ed he).1
  have c := hE.ge i j he
  have g := Gr.gap_up (A := E) hgt (by omega) n (hO.ed he).2
  refine ⟨h.up.upd hE hO hd he, fun hb => Bool.noConfusion hb, fun _ => ?_⟩
  cases b with
  | false => have := (h.no rfl).1; omega
  | true => have := h.yes rfl; omega
/-- on the way down -/
structure PlDn (n : Nat) (L : El) (d : Tm) (S : Int) (T X : Tm) (b : Bool) (k : Nat) : Prop where
  dn : Gr.DownL n d S T X
  no : b = false → ∀ i k, Gr.ed L i k → X i ≤ X k - d i
  lt : 2 * Gr.gap X T n + bn b ≤ k
structure PlDnQ (n : Nat) (L : El) (d : Tm) (S : Int) (T X Y : Tm) (b : Bool) (q : Nat) : Prop where
  dn : Gr.DownL n d S T Y
  no : b = false → Gr.gap Y T n ≤ Gr.gap X T n ∧ ∀ (p : Nat) (x y : Int), p < q → L[p]? = some (x, y) → Y x.toNat ≤ Y y.toNat - d x.toNat
  yes : b = true → Gr.gap Y T n < Gr.gap X T n
theorem PlDnQ.end {n : Nat} {L : El} {d T X Y : Tm} {S : Int} {b : Bool} {k : Nat} (h : PlDnQ n L d S T X Y b L.length) (hk : 2 * Gr.gap X T n + 1 ≤ k) : 2 * Gr.gap Y T n + bn b < k ∧ PlDn n L d S T Y b (2 * Gr.gap Y T n + bn b) := by
  refine ⟨?_, h.dn, fun hb i j he => ?_, Nat.le_refl _⟩
  · cases b with
    | false => have := (h.no rfl).1; simp [bn]; omega
    | true => have := h.yes rfl; simp [bn]; omega
  · obtain ⟨p, hp, e⟩ := List.getElem_of_mem he
    have := (h.no hb).2 p i j hp (by rw [List.getElem?_eq_getElem hp, e])
    simpa using this
theorem PlDnQ.stay {n : Nat} {L : El} {d T X Y : Tm} {S : Int} {b : Bool} {q : Nat} {i j : Nat} (h : PlDnQ n L d S T X Y b q) (hx : L[q]? = some ((i : Int), (j : Int))) (hle : Y i ≤ Y j - d i) : PlDnQ n L d S T X Y b (q + 1) :=
  ⟨h.dn, fun hb => ⟨(h.no hb).1, fun p x y hp hxy => by
    by_cases e : p = q
    · subst e
      rw [hx] at hxy
      obtain ⟨rfl, rfl⟩ := Prod.mk.inj (Option.some.inj hxy)
      simpa using hle
    · exact (h.no hb).2 p x y (by omega) hxy⟩, h.yes⟩
theorem PlDnQ.go {n : Nat} {L : El} {d T X Y : Tm} {S : Int} {b : Bool} {q : Nat} {i j : Nat} (h : PlDnQ n L d S T X Y b q) (hL : Gr.IsL n L d S T) (hO : Gr.Ok n L) (hd : ∀ i, i < n → 0 ≤ d i) (he : Gr.ed L i j) (hgt : Y j - d i < Y i) : PlDnQ n L d S T X (Gr.upd Y i (Y j - d i)) true (q + 1) := by
  have a := h.dn.ge j (hO.ed he).2
  have c := hL.ge i j he
  have g := Gr.gap_down (B := T) hgt (by omega) n (hO.ed he).1
  refine ⟨h.dn.upd hL hO hd he, fun hb => Bool.noConfusion hb, fun _ => ?_⟩
  cases b with
  | false => have := (h.no rfl).1; omega
  | true => have := h.yes rfl; omega
/-- the span so far -/
def spanK (d E : Tm) : Nat → Int
  | 0 => 0
  | i + 1 => max (spanK d E i) (E i + d i)
theorem spanK_is {d E : Tm} : ∀ n, Gr.IsS n d E (spanK d E n)
  | 0 => ⟨by simp [spanK], fun i hi => absurd hi (by omega), .inl rfl⟩
  | n + 1 => by
    obtain ⟨h1, h2, h3⟩ := spanK_is (d := d) (E := E) n
    refine ⟨by unfold spanK; omega, fun i hi => ?_, ?_⟩
    · unfold spanK
      by_cases e : i = n
      · subst e; omega
      · have := h2 i (by omega); omega
    · unfold spanK
      by_cases e : E n + d n ≤ spanK d E n
      · rw [Int.max_eq_left e]
        rcases h3 with h | ⟨i, hi, h⟩
        · exact .inl h
        · exact .inr ⟨i, by omega, h⟩
      · exact .inr ⟨n, by omega, by omega⟩
theorem IsS_uniq {n : Nat} {d E : Tm} {S S' : Int} (h : Gr.IsS n d E S) (g : Gr.IsS n d E S') : S = S' := by
  have a : S ≤ S' := by
    rcases h.eq with e | ⟨i, hi, e⟩
    · have := g.pos; omega
    · have := g.ge i hi; omega
  have b : S' ≤ S := by
    rcases g.eq with e | ⟨i, hi, e⟩
    · have := h.pos; omega
    · have := h.ge i hi; omega
  omega
theorem spanK_mono {d E : Tm} : ∀ {k n : Nat}, k ≤ n → 0 ≤ spanK d E k ∧ spanK d E k ≤ spanK d E n
  | k, 0, h => by obtain rfl : k = 0 := by omega
                  exact ⟨by simp [spanK], Int.le_refl _⟩
  | k, n + 1, h => by
    by_cases e : k = n + 1
    · subst e; exact ⟨(spanK_is (d := d) (E := E) (n + 1)).pos, Int.le_refl _⟩
    · have := spanK_mono (d := d) (E := E) (k := k) (n := n) (by omega)
      refine ⟨this.1, Int.le_trans this.2 ?_⟩
      show spanK d E n ≤ max (spanK d E n) (E n + d n)
      omega
/-- the plan that the document's function gives: two fresh rows and the span -/
def PlanPost (n : Nat) (E T : Tm) (S : Int) (w : World) (e : Ending) (w' : World) : Prop :=
  ∃ ge gl : Nat, e = .returned (.agg #[.slice (some ⟨ge, 0, none⟩) n n, .slice (some ⟨gl, 0, none⟩) n n, .int .i64 S]) ∧ w'.rowIs ge 2 n (i64s E) ∧ w'.rowIs gl 2 n (i64s T) ∧ w.heap.size ≤ ge ∧ w.heap.size ≤ gl ∧ Below w.heap.size w w'
set_option maxRecDepth 100000 in
set_option maxHeartbeats 4000000 in
theorem PlanOf_good (n : Nat) (L : El) (D : List Int) (a b : Option Addr) (l cap m cap2 : Nat) (E T : Tm) (S : Int) (w : World) (hn : l = L.length) (hL : Edges w a L) (hm : m = D.length) (hD : Vals w b (ints D)) (hF : Fine n L D) (hE : Gr.IsE n L (dur D) E) (hS : Gr.IsS n (dur D) E S) (hT : Gr.IsL n L (dur D) S T) :
    Calls Try.prog 33 #[.int .i64 n, .slice a l cap, .slice b m cap2] w fun e w' => PlanPost n E T S w e w' := by
  have HL := Lib.hid hL
  have HN := Lib.hid hn
  have HD := Lib.hid hD
  have HM := Lib.hid hm
  have HF := Lib.hid hF
  have HE := Lib.hid hE
  have HS := Lib.hid hS
  have HTL := Lib.hid hT
  obtain ⟨_, z1, _, _, g2, g3⟩ := graphE_good hF.g
  have HO := Lib.hid (okG g3)
  have HT := Lib.hid (Gr.topo (okG g3) hF.k)
  obtain rfl : n = m := by have := hF.len; omega
  have hl4 : l ≤ 400 := by omega
  have h60 : n ≤ 60 := by omega
  clear hL hn hD hm hF g3 hE hS hT
  have HDUR : Hid (∀ i, i < n → D[i]? = some (dur D i) ∧ 0 ≤ dur D i ∧ dur D i ≤ 1000000000) := Lib.hid fun i hi => by
    have hx : D[i]? = some D[i] := List.getElem?_eq_getElem (by have := HM.out; omega)
    have e : dur D i = D[i] := by simp [dur, List.getD, hx]
    rw [e]
    exact ⟨hx, okD_at HF.out.d hx⟩
  have HBD : Hid (∀ i, i < n → 0 ≤ E i ∧ E i ≤ 60000000000) := Lib.hid fun i hi => by
    refine ⟨HE.out.pos i hi, ?_⟩
    have h1 := Gr.early_bound HT.out HE.out (M := 1000000000) (by omega) (fun i hi => (HDUR.out i hi).2.2) HO.out i hi
    have h2 : (n : Int) * 1000000000 ≤ 60 * 1000000000 := Int.mul_le_mul_of_nonneg_right (by omega) (by omega)
    omega
  have hSb : 0 ≤ S ∧ S ≤ 61000000000 := by
    refine ⟨HS.out.pos, ?_⟩
    rcases HS.out.eq with e | ⟨i, hi, e⟩
    · omega
    · have h1 := (HBD.out i hi).2
      have h2 := (HDUR.out i hi).2.2
      omega
  obtain ⟨hS0, hS1⟩ := hSb
  have HEL := Lib.hid (Gr.early_late HO.out HT.out HE.out HS.out HTL.out)
  have HPRE : Hid (∀ (q : Nat) (x y : Int), L[q]? = some (x, y) → 0 ≤ x ∧ x.toNat < n ∧ 0 ≤ y ∧ y.toNat < n) := Lib.hid fun q x y hx => by
    obtain ⟨q1, q2, q3, q4⟩ := HO.out _ (List.mem_of_getElem? hx)
    simp only at q1 q2 q3 q4
    omega
  have hmk := run_make_row' (P := Try.prog) 36 2 (.int .i64 0) 8 Try.underlying36 infoI64 rfl .i64 .i64 n (by omega) (by omega)
  go_enter Try.func33, Try.ntmps33
  go_upto_region 1 with fail
  obtain ⟨w1, hw1⟩ : ∃ w1, w1 = w.alloc (.cells #[.slice none 0 0, .slice none 0 0, .int .i64 0] 55) := ⟨_, rfl⟩
  have HRES := Lib.hid (show w1.rowIs w.heap.size 55 3 planZ from by rw [hw1]; exact plan_res w)
  have HB1 := Lib.hid (show Below w.heap.size w w1 from by rw [hw1]; exact (Below.refl _ _).alloc (Nat.le_refl _) _)
  have hw1s : w.heap.size < w1.heap.size := by rw [hw1]; simp
  rw [← hw1]
  clear hw1
  go_cut [7] (fun p W => ∃ ge gl gp, p = .pointer (some ⟨gp, 0, none⟩) ∧ PW n ge gl gp (fun _ => 0) (fun _ => 0) 0 w1 W)
  case first =>
    go_region
    all_goals
      go_wp2_with fail
      go_meet
    · exact plan_0 w1 n
    · exact plan_1 w1 n
    · exact plan_2 w1 n
    · exact plan_3 w1 n
    · exact plan_4 w1 n
    · exact plan_5 w1 n
  case rest =>
    obtain ⟨ge, gl, gp, rfl, hW⟩ := hcut
    have HW := Lib.hid hW
    clear hW hmk
    have HL1 := Lib.hid (HL.out.below HB1.out (Nat.le_refl _))
    have HD1 := Lib.hid (HD.out.below HB1.out (Nat.le_refl _))
    go_wp2_with fail
    go_loopg [8] (2 * Gr.gap E (fun _ => 0) n + 1) (fun k v wr => ∃ (X : Tm) (f : Bool), v = .bool f ∧ Hid (PW n ge gl gp X (fun _ => 0) 0 w1 wr) ∧ Hid (PlUp n L (dur D) E X f k))
    case atStart => exact ⟨_, true, rfl, HW, Lib.hid ⟨⟨fun _ _ => Int.le_refl _, fun i hi => (HBD.out i hi).1⟩, fun h => (Bool.noConfusion h), Nat.le_refl _⟩⟩
    case round =>
      clear HW
      obtain ⟨X, f, rfl, HW, HU⟩ := hrel
      have hsz := HW.out.below.size
      cases f with
      | true =>
        have HU1 : Hid (PlUpQ n L (dur D) E X X false 0) := Lib.hid ⟨HU.out.up, fun _ => ⟨Nat.le_refl _, fun p x y hp => absurd hp (by omega)⟩, fun h => by cases h⟩
        obtain ⟨gq, rfl⟩ : ∃ q, q = gk := ⟨_, rfl⟩
        go_wp2_with fail
        go_loopg [8, 26] l (fun k v x wx => ∃ (q : Nat) (Y : Tm) (f : Bool), k + q = l ∧ x = .int .i64 q ∧ v = .bool f ∧ Hid (PW n ge gl gp Y (fun _ => 0) 0 w1 wx) ∧ Hid (PlUpQ n L (dur D) E X Y f q))
        case atStart => exact ⟨0, X, false, by omega, rfl, rfl, HW, HU1⟩
        case round =>
          clear HW HU1
          obtain ⟨q, Y, f, hq, rfl, rfl, HW, HQ⟩ := hrel
          have hsz2 := HW.out.below.size
          by_cases hql : q < l
          · obtain ⟨b0, off, rfl, hb, hat⟩ := HL1.out (by have := HN.out; omega)
            obtain ⟨⟨x, y⟩, hx⟩ : ∃ x, L[q]? = some x := ⟨_, List.getElem?_eq_getElem (by have := HN.out; omega)⟩
            obtain ⟨q0, q1⟩ := hat.below HW.out.below hb q x y hx
            have hbr : b0 < wr.heap.size := by omega
            obtain ⟨x0, xn, y0, yn⟩ := HPRE.out q x y hx
            obtain ⟨j, rfl⟩ := Int.eq_ofNat_of_zero_le x0
            obtain ⟨i, rfl⟩ := Int.eq_ofNat_of_zero_le y0
            rw [Int.toNat_natCast] at xn yn
            have HX := Lib.hid hx
            have HED := Lib.hid (show Gr.ed L j i from List.mem_of_getElem? hx)
            obtain ⟨bd, od, rfl, hbd, hatd⟩ := HD1.out (by simp [ints]; have := HM.out; omega)
            obtain ⟨W, hW⟩ : ∃ W, W = wr.alloc (.cells #[.int .i64 (j : Int), .int .i64 (i : Int)] 66) := ⟨_, rfl⟩
            have HWW := Lib.hid (show PW n ge gl gp Y (fun _ => 0) 0 w1 W from by rw [hW]; exact HW.out.step ((Below.refl _ _).alloc (Nat.le_refl _) _))
            have HWE := Lib.hid hW
            have g0 : W.cell? ⟨wr.heap.size, 0, none⟩ = some (.int .i64 (j : Int)) := by rw [hW, cell_of_row _ _ 0 _ _ (0, 0) (heap_alloc_new wr _)]; rfl
            have g1 : W.cell? ⟨wr.heap.size, 1, none⟩ = some (.int .i64 (i : Int)) := by rw [hW, cell_of_row _ _ 1 _ _ (0, 0) (heap_alloc_new wr _)]; rfl
            have g2 : wr.heap.size < W.heap.size := by rw [hW]; simp
            have d1 := (HWW.out.below.cell (p := ⟨bd, od + j, none⟩) hbd).trans (hatd j (.int .i64 (dur D j)) (by simp [ints, (HDUR.out j xn).1]))
            have hbdl : bd < W.heap.size := by have := HWW.out.below.size; omega
            obtain ⟨_, dj0, dj1⟩ := HDUR.out j xn
            have HDJ := Lib.hid dj0
            obtain ⟨ej0, ej1⟩ := HBD.out j xn
            have yj0 := HQ.out.up.pos j xn
            have yj1 := HQ.out.up.le j xn
            have e1 := HWW.out.early.cell yn
            have e2 := HWW.out.early.cell xn
            have e3 := HWW.out.early.frozen i
            have p0 : W.cell? ⟨gp, 0, none⟩ = some (.slice (some ⟨ge, 0, none⟩) n n) := HWW.out.var.cell (i := 0) (by omega)
            have hgel := HWW.out.early.lt
            have hgpl := HWW.out.var.lt
            unfold i64s at e1 e2
            clear hatd hat hx hW
            by_cases hgt : Y i < Y j + dur D j
            · have HQ2 := Lib.hid (HQ.out.go HE.out HO.out HDJ.out HED.out hgt)
              have HST : Hid (∀ W', PW n ge gl gp Y (fun _ => 0) 0 w1 W' → PW n ge gl gp (Gr.upd Y i (Y j + dur D j)) (fun _ => 0) 0 w1 (W'.setCell ⟨ge, i, none⟩ (.int .i64 (Y j + dur D j)))) := Lib.hid fun W' h => h.setE i _
              generalize dur D j = dj at *
              generalize hyj : Y j = yj at *
              generalize hyi : Y i = yi at *
              have hw1 : IntKind.i64.wrap (yj + dj) = yj + dj := IntWalk.i64_in _ (by omega)
              have hgb : decide (yj + dj > yi) = true := by simp [hgt]
              have hi1 : (0 : Int) ≤ (i : Int) := by omega
              have hi2 : (i : Int) < (n : Int) := by omega
              have hj1 : (0 : Int) ≤ (j : Int) := by omega
              have hj2 : (j : Int) < (n : Int) := by omega
              go_wp2_with fail
              rw [← HWE.out]
              go_quiet (fail)
              go_wp2_with fail
              go_roundg (gk - 1)
              case measure => omega
              case rel => exact ⟨q + 1, _, true, by omega, rfl, rfl, Lib.hid (HST.out _ (HWW.out.step ((Drawn.drewN W nq).below _))), HQ2⟩
            · have HQ2 := Lib.hid (HQ.out.stay HX.out (by omega))
              generalize dur D j = dj at *
              generalize hyj : Y j = yj at *
              generalize hyi : Y i = yi at *
              have hw1 : IntKind.i64.wrap (yj + dj) = yj + dj := IntWalk.i64_in _ (by omega)
              have hgb : decide (yj + dj > yi) = false := by simp [hgt]
              have hi1 : (0 : Int) ≤ (i : Int) := by omega
              have hi2 : (i : Int) < (n : Int) := by omega
              have hj1 : (0 : Int) ≤ (j : Int) := by omega
              have hj2 : (j : Int) < (n : Int) := by omega
              go_wp2_with fail
              rw [← HWE.out]
              go_quiet (fail)
              go_wp2_with fail
              go_roundg (gk - 1)
              case measure => omega
              case rel => exact ⟨q + 1, Y, f, by omega, rfl, rfl, Lib.hid (HWW.out.step ((Drawn.drewN W nq).below _)), HQ2⟩
          · have HQ2 := Lib.hid ((show q = L.length from by have := HN.out; omega) ▸ HQ.out)
            have HF2 := Lib.hid (HQ2.out.end HU.out.lt)
            go_wp2_with fail
            go_roundg (2 * Gr.gap E Y n + bn f)
            case measure => exact HF2.out.1
            case rel => exact ⟨Y, f, rfl, HW, Lib.hid HF2.out.2⟩
      | false =>
        have HXE := Lib.hid (HU.out.up.done HT.out HE.out (HU.out.no rfl))
        have HW0 : Hid (PW n ge gl gp E (fun _ => 0) (spanK (dur D) E 0) w1 wr) := Lib.hid (HW.out.congr HXE.out (fun _ _ => rfl) rfl)
        have HSP := Lib.hid (IsS_uniq (spanK_is (d := dur D) (E := E) n) HS.out)
        clear HW HU HXE
        go_wp2_with fail
        go_loopw [58] (fun x wx => ∃ k : Nat, k ≤ n ∧ x = .int .i64 k ∧ Hid (PW n ge gl gp E (fun _ => 0) (spanK (dur D) E k) w1 wx)) (fun x _ => n - (intOf x).toNat)
        case atStart => exact ⟨0, by omega, rfl, HW0⟩
        case round =>
          clear HW0
          obtain ⟨i, hi, rfl, HW⟩ := hrel
          have hsz2 := HW.out.below.size
          by_cases hin : i < n
          · obtain ⟨bd, od, rfl, hbd, hatd⟩ := HD1.out (by simp [ints]; have := HM.out; omega)
            have d1 := (HW.out.below.cell (p := ⟨bd, od + i, none⟩) hbd).trans (hatd i (.int .i64 (dur D i)) (by simp [ints, (HDUR.out i hin).1]))
            obtain ⟨_, dj0, dj1⟩ := HDUR.out i hin
            obtain ⟨ej0, ej1⟩ := HBD.out i hin
            have e1 := HW.out.early.cell hin
            have p0 : wr.cell? ⟨gp, 0, none⟩ = some (.slice (some ⟨ge, 0, none⟩) n n) := HW.out.var.cell (i := 0) (by omega)
            have p2 : wr.cell? ⟨gp, 2, none⟩ = some (.int .i64 (spanK (dur D) E i)) := HW.out.var.cell (i := 2) (by omega)
            have p3 := HW.out.var.frozen 2
            have hgel := HW.out.early.lt
            have hgpl := HW.out.var.lt
            unfold i64s at e1
            have HST : Hid (∀ v : Int, v = spanK (dur D) E (i + 1) → PW n ge gl gp E (fun _ => 0) (spanK (dur D) E (i + 1)) w1 (wr.setCell ⟨gp, 2, none⟩ (.int .i64 v))) := Lib.hid fun v hv => by rw [← hv]; exact HW.out.setS v
            have HGO := Lib.hid (show spanK (dur D) E (i + 1) = max (spanK (dur D) E i) (E i + dur D i) from rfl)
            generalize dur D i = dj at *
            generalize E i = ej at *
            generalize spanK (dur D) E i = S0 at *
            have hi1 : (0 : Int) ≤ (i : Int) := by omega
            have hi2 : (i : Int) < (n : Int) := by omega
            have hw1 : IntKind.i64.wrap (ej + dj) = ej + dj := IntWalk.i64_in _ (by omega)
            clear hatd
            obtain ⟨W, hW⟩ : ∃ W, W = wr := ⟨_, rfl⟩
            subst hW
            go_wp2_with fail
            go_still_tail 14, (by kernel_rfl)
            change wpList _ _ _ _ _ W.drew
            go_wp2_with fail
            go_roundw
            case rel => exact ⟨i + 1, by omega, rfl, Lib.hid ((HST.out _ (by rw [HGO.out, max_if])).step ((Below.refl _ _).drew))⟩
            case measure => simp [intOf]; omega
          · obtain rfl : i = n := by omega
            have HW0 : Hid (PW i ge gl gp E (Gr.updK (fun _ => 0) (fun z => S - dur D z) 0) S w1 wr) := Lib.hid (HW.out.congr (fun _ _ => rfl) (fun _ _ => by simp [Gr.updK]) HSP.out)
            clear HW HSP
            go_wp2_with fail
            go_loopw [77] (fun x wx => ∃ k : Nat, k ≤ i ∧ x = .int .i64 k ∧ Hid (PW i ge gl gp E (Gr.updK (fun _ => 0) (fun z => S - dur D z) k) S w1 wx)) (fun x _ => i - (intOf x).toNat)
            case atStart => exact ⟨0, by omega, rfl, HW0⟩
            case round =>
              clear HW0
              obtain ⟨k, hk, rfl, HW⟩ := hrel
              have hsz3 := HW.out.below.size
              by_cases hkn : k < i
              · obtain ⟨bd, od, rfl, hbd, hatd⟩ := HD1.out (by simp [ints]; have := HM.out; omega)
                have d1 := (HW.out.below.cell (p := ⟨bd, od + k, none⟩) hbd).trans (hatd k (.int .i64 (dur D k)) (by simp [ints, (HDUR.out k hkn).1]))
                obtain ⟨_, dj0, dj1⟩ := HDUR.out k hkn
                have e1 := HW.out.late.cell hkn
                have e3 := HW.out.late.frozen k
                have p1 : wr.cell? ⟨gp, 1, none⟩ = some (.slice (some ⟨gl, 0, none⟩) i i) := HW.out.var.cell (i := 1) (by omega)
                have p2 : wr.cell? ⟨gp, 2, none⟩ = some (.int .i64 S) := HW.out.var.cell (i := 2) (by omega)
                have hgll := HW.out.late.lt
                have hgpl := HW.out.var.lt
                unfold i64s at e1
                have HST : Hid (∀ v : Int, v = S - dur D k → PW i ge gl gp E (Gr.updK (fun _ => 0) (fun z => S - dur D z) (k + 1)) S w1 (wr.setCell ⟨gl, k, none⟩ (.int .i64 v))) := Lib.hid fun v hv => by rw [Gr.updK_go, hv]; exact HW.out.setL k _
                generalize Gr.updK (fun _ => 0) (fun z => S - dur D z) k k = lt0 at *
                generalize dur D k = dj at *
                have hi1 : (0 : Int) ≤ (k : Int) := by omega
                have hi2 : (k : Int) < (i : Int) := by omega
                have hw1 : IntKind.i64.wrap (S - dj) = S - dj := IntWalk.i64_in _ (by omega)
                clear hatd
                obtain ⟨W, hW⟩ : ∃ W, W = wr := ⟨_, rfl⟩
                subst hW
                go_wp2_with fail
                go_still_tail 11, (by kernel_rfl)
                change wpList _ _ _ _ _ W.drew
                go_wp2_with fail
                go_roundw
                case rel => exact ⟨k + 1, by omega, rfl, Lib.hid ((HST.out _ rfl).step ((Below.refl _ _).drew))⟩
                case measure => simp [intOf]; omega
              · obtain rfl : k = i := by omega
                have HW0 : Hid (PW k ge gl gp E (fun z => S - dur D z) S w1 wr) := Lib.hid (HW.out.congr (fun _ _ => rfl) (fun z hz => by simp [Gr.updK, hz]) rfl)
                clear HW
                have HDN0 : Hid (Gr.DownL k (dur D) S T (fun z => S - dur D z)) := Lib.hid ⟨fun _ _ => Int.le_refl _, fun z hz => HTL.out.le z hz⟩
                go_wp2_with fail
                go_loopg [14] (2 * Gr.gap (fun z => S - dur D z) T k + 1) (fun q v wr => ∃ (X : Tm) (f : Bool), v = .bool f ∧ Hid (PW k ge gl gp E X S w1 wr) ∧ Hid (PlDn k L (dur D) S T X f q))
                case atStart => exact ⟨_, true, rfl, HW0, Lib.hid ⟨HDN0.out, fun h => (Bool.noConfusion h), Nat.le_refl _⟩⟩
                case round =>
                  clear HW0
                  obtain ⟨X, f, rfl, HW, HU⟩ := hrel
                  have hsz := HW.out.below.size
                  cases f with
                  | true =>
                    have HU1 : Hid (PlDnQ k L (dur D) S T X X false 0) := Lib.hid ⟨HU.out.dn, fun _ => ⟨Nat.le_refl _, fun p x y hp => absurd hp (by omega)⟩, fun h => by cases h⟩
                    obtain ⟨gq, rfl⟩ : ∃ q, q = gk := ⟨_, rfl⟩
                    go_wp2_with fail
                    go_loopg [14, 95] l (fun z v x wx => ∃ (q : Nat) (Y : Tm) (f : Bool), z + q = l ∧ x = .int .i64 q ∧ v = .bool f ∧ Hid (PW k ge gl gp E Y S w1 wx) ∧ Hid (PlDnQ k L (dur D) S T X Y f q))
                    case atStart => exact ⟨0, X, false, by omega, rfl, rfl, HW, HU1⟩
                    case round =>
                      clear HW HU1
                      obtain ⟨q, Y, f, hq, rfl, rfl, HW, HQ⟩ := hrel
                      have hsz2 := HW.out.below.size
                      by_cases hql : q < l
                      · obtain ⟨b0, off, rfl, hb, hat⟩ := HL1.out (by have := HN.out; omega)
                        obtain ⟨⟨x, y⟩, hx⟩ : ∃ x, L[q]? = some x := ⟨_, List.getElem?_eq_getElem (by have := HN.out; omega)⟩
                        obtain ⟨q0, q1⟩ := hat.below HW.out.below hb q x y hx
                        have hbr : b0 < wr.heap.size := by omega
                        obtain ⟨x0, xn, y0, yn⟩ := HPRE.out q x y hx
                        obtain ⟨i, rfl⟩ := Int.eq_ofNat_of_zero_le x0
                        obtain ⟨j, rfl⟩ := Int.eq_ofNat_of_zero_le y0
                        rw [Int.toNat_natCast] at xn yn
                        have HX := Lib.hid hx
                        have HED := Lib.hid (show Gr.ed L i j from List.mem_of_getElem? hx)
                        obtain ⟨bd, od, rfl, hbd, hatd⟩ := HD1.out (by simp [ints]; have := HM.out; omega)
                        obtain ⟨W, hW⟩ : ∃ W, W = wr.alloc (.cells #[.int .i64 (i : Int), .int .i64 (j : Int)] 66) := ⟨_, rfl⟩
                        have HWW := Lib.hid (show PW k ge gl gp E Y S w1 W from by rw [hW]; exact HW.out.step ((Below.refl _ _).alloc (Nat.le_refl _) _))
                        have HWE := Lib.hid hW
                        have g0 : W.cell? ⟨wr.heap.size, 0, none⟩ = some (.int .i64 (i : Int)) := by rw [hW, cell_of_row _ _ 0 _ _ (0, 0) (heap_alloc_new wr _)]; rfl
                        have g1 : W.cell? ⟨wr.heap.size, 1, none⟩ = some (.int .i64 (j : Int)) := by rw [hW, cell_of_row _ _ 1 _ _ (0, 0) (heap_alloc_new wr _)]; rfl
                        have g2 : wr.heap.size < W.heap.size := by rw [hW]; simp
                        have d1 := (HWW.out.below.cell (p := ⟨bd, od + i, none⟩) hbd).trans (hatd i (.int .i64 (dur D i)) (by simp [ints, (HDUR.out i xn).1]))
                        have hbdl : bd < W.heap.size := by have := HWW.out.below.size; omega
                        obtain ⟨_, dj0, dj1⟩ := HDUR.out i xn
                        have HDJ : Hid (∀ z, z < k → 0 ≤ dur D z) := Lib.hid fun z hz => (HDUR.out z hz).2.1
                        obtain ⟨_, dz0, dz1⟩ := HDUR.out j yn
                        have tj0 := HQ.out.dn.ge j yn
                        have tj1 := HQ.out.dn.le j yn
                        have tj2 := HEL.out j yn
                        have tj3 := (HBD.out j yn).1
                        have e1 := HWW.out.late.cell yn
                        have e2 := HWW.out.late.cell xn
                        have e3 := HWW.out.late.frozen i
                        have p1 : W.cell? ⟨gp, 1, none⟩ = some (.slice (some ⟨gl, 0, none⟩) k k) := HWW.out.var.cell (i := 1) (by omega)
                        have hgll := HWW.out.late.lt
                        have hgpl := HWW.out.var.lt
                        unfold i64s at e1 e2
                        clear hatd hat hx hW
                        by_cases hgt : Y j - dur D i < Y i
                        · have HQ2 := Lib.hid (HQ.out.go HTL.out HO.out HDJ.out HED.out hgt)
                          have HST : Hid (∀ W', PW k ge gl gp E Y S w1 W' → PW k ge gl gp E (Gr.upd Y i (Y j - dur D i)) S w1 (W'.setCell ⟨gl, i, none⟩ (.int .i64 (Y j - dur D i)))) := Lib.hid fun W' h => h.setL i _
                          generalize dur D i = dj at *
                          generalize dur D j = dz at *
                          generalize hyj : Y j = yj at *
                          generalize hyi : Y i = yi at *
                          have hw1 : IntKind.i64.wrap (yj - dj) = yj - dj := IntWalk.i64_in _ (by omega)
                          have hgb : decide (yj - dj < yi) = true := by simp [hgt]
                          have hi1 : (0 : Int) ≤ (i : Int) := by omega
                          have hi2 : (i : Int) < (k : Int) := by omega
                          have hj1 : (0 : Int) ≤ (j : Int) := by omega
                          have hj2 : (j : Int) < (k : Int) := by omega
                          go_wp2_with fail
                          rw [← HWE.out]
                          go_quiet (fail)
                          go_wp2_with fail
                          go_roundg (gk - 1)
                          case measure => omega
                          case rel => exact ⟨q + 1, _, true, by omega, rfl, rfl, Lib.hid (HST.out _ (HWW.out.step ((Drawn.drewN W nq).below _))), HQ2⟩
                        · have HQ2 := Lib.hid (HQ.out.stay HX.out (by omega))
                          generalize dur D i = dj at *
                          generalize dur D j = dz at *
                          generalize hyj : Y j = yj at *
                          generalize hyi : Y i = yi at *
                          have hw1 : IntKind.i64.wrap (yj - dj) = yj - dj := IntWalk.i64_in _ (by omega)
                          have hgb : decide (yj - dj < yi) = false := by simp [hgt]
                          have hi1 : (0 : Int) ≤ (i : Int) := by omega
                          have hi2 : (i : Int) < (k : Int) := by omega
                          have hj1 : (0 : Int) ≤ (j : Int) := by omega
                          have hj2 : (j : Int) < (k : Int) := by omega
                          go_wp2_with fail
                          rw [← HWE.out]
                          go_quiet (fail)
                          go_wp2_with fail
                          go_roundg (gk - 1)
                          case measure => omega
                          case rel => exact ⟨q + 1, Y, f, by omega, rfl, rfl, Lib.hid (HWW.out.step ((Drawn.drewN W nq).below _)), HQ2⟩
                      · have HQ2 := Lib.hid ((show q = L.length from by have := HN.out; omega) ▸ HQ.out)
                        have HF2 := Lib.hid (HQ2.out.end HU.out.lt)
                        go_wp2_with fail
                        go_roundg (2 * Gr.gap Y T k + bn f)
                        case measure => exact HF2.out.1
                        case rel => exact ⟨Y, f, rfl, HW, Lib.hid HF2.out.2⟩
                  | false =>
                    have HXT := Lib.hid (HU.out.dn.done HO.out HT.out HTL.out (HU.out.no rfl))
                    have HW1 : Hid (PW k ge gl gp E T S w1 wr) := Lib.hid (HW.out.congr (fun _ _ => rfl) HXT.out rfl)
                    have p0 : wr.cell? ⟨gp, 0, none⟩ = some (.slice (some ⟨ge, 0, none⟩) k k) := HW.out.var.cell (i := 0) (by omega)
                    have p1 : wr.cell? ⟨gp, 1, none⟩ = some (.slice (some ⟨gl, 0, none⟩) k k) := HW.out.var.cell (i := 1) (by omega)
                    have p2 : wr.cell? ⟨gp, 2, none⟩ = some (.int .i64 S) := HW.out.var.cell (i := 2) (by omega)
                    have HR := Lib.hid (rowIs_below HRES.out HW.out.below HRES.out.lt)
                    have r0 := HR.out.cell (i := 0) (by omega)
                    have r1 := HR.out.cell (i := 1) (by omega)
                    have r2 := HR.out.cell (i := 2) (by omega)
                    have f0 := HR.out.frozen 0
                    have f1 := HR.out.frozen 1
                    have f2 := HR.out.frozen 2
                    have hrl := HR.out.lt
                    have hgpl := HW.out.var.lt
                    clear HW HU HXT
                    go_wp2_with fail
                    have hR3 := ((HR.out.set 0 (.slice (some ⟨ge, 0, none⟩) k k)).set 1 (.slice (some ⟨gl, 0, none⟩) k k)).set 2 (.int .i64 S)
                    have c0 := hR3.cell (i := 0) (by omega)
                    have c1 := hR3.cell (i := 1) (by omega)
                    have c2 := hR3.cell (i := 2) (by omega)
                    simp only [if_true, if_false, reduceIte, Nat.reduceEqDiff] at c0 c1 c2
                    have hrl1 := HRES.out.lt
                    have hne1 : ge ≠ w.heap.size := fun e => by have := HW1.out.fe; omega
                    have hne2 : gl ≠ w.heap.size := fun e => by have := HW1.out.fl; omega
                    have hB := ((((HB1.out.trans (HW1.out.below.mono (by omega))).setCell (p := ⟨w.heap.size, 0, none⟩) (Nat.le_refl _) (.slice (some ⟨ge, 0, none⟩) k k)).setCell (p := ⟨w.heap.size, 1, none⟩) (Nat.le_refl _) (.slice (some ⟨gl, 0, none⟩) k k)).setCell (p := ⟨w.heap.size, 2, none⟩) (Nat.le_refl _) (.int .i64 S))
                    refine bodyPost_ret (v := .agg #[.slice (some ⟨ge, 0, none⟩) k k, .slice (some ⟨gl, 0, none⟩) k k, .int .i64 S]) (by simp [results, Try.results33, go_sem, c0, c1, c2]) rfl ⟨ge, gl, rfl, ((HW1.out.early.setOther hne1 _).setOther hne1 _).setOther hne1 _, ((HW1.out.late.setOther hne2 _).setOther hne2 _).setOther hne2 _, by have := HW1.out.fe; omega, by have := HW1.out.fl; omega, hB⟩
end Go.Proofs.Ytfjoakhcgpckgaa
