import Derived.Test.YtfjoakhcgpckgaaPathLeast
namespace Go.Proofs.Ytfjoakhcgpckgaa
open Go.ChangeShapes Go.WideShapes Go.ChangeAt Go.RowKit
open Gr (El Tm)
set_option maxRecDepth 100000
/-- the way from the thing i on (or from no thing: i < 0) -/
inductive WayR (n : Nat) (L : El) (d E T : Tm) (S : Int) : Int → List Nat → Prop
  | none {i : Int} (h : i < 0) : WayR n L d E T S i []
  | last {i : Nat} (h : E i + d i = S) : WayR n L d E T S i [i]
  | go {i : Nat} {l : List Nat} (h : E i + d i ≠ S) (t : WayR n L d E T S (leastI (fun k => stepB L E T i k (E i + d i)) n) l) : WayR n L d E T S i (i :: l)
theorem WayR.uniq {n : Nat} {L : El} {d E T : Tm} {S : Int} {i : Int} {l : List Nat} (h : WayR n L d E T S i l) : ∀ {m : List Nat}, WayR n L d E T S i m → l = m := by
  induction h with
  | none h => intro m hm; cases hm with
    | none _ => rfl
    | last _ => omega
    | go _ _ => omega
  | last h =>
    rename_i i
    intro m hm
    generalize hj : (i : Int) = j at hm
    cases hm with
    | none h2 => omega
    | last h2 => obtain rfl := Int.ofNat_inj.1 hj; rfl
    | go h2 _ => obtain rfl := Int.ofNat_inj.1 hj; exact (h2 h).elim
  | go h t ih =>
    rename_i i l
    intro m hm
    generalize hj : (i : Int) = j at hm
    cases hm with
    | none h2 => omega
    | last h2 => obtain rfl := Int.ofNat_inj.1 hj; exact (h h2).elim
    | go h2 t2 => obtain rfl := Int.ofNat_inj.1 hj; rw [ih t2]
/-- rounds that are to come at most: by the place in the order -/
def wayM (n : Nat) (ord : List Nat) (i : Int) : Nat := if i < 0 then 0 else 1 + n - ord.idxOf i.toNat
theorem wayM_le (n : Nat) (ord : List Nat) (i : Int) : wayM n ord i ≤ n + 1 := by unfold wayM; split <;> omega
theorem wayM_pos {n : Nat} {L : El} {ord : List Nat} (hT : Gr.Topo n L ord) {j : Nat} (hj : j < n) : 0 < wayM n ord j := by
  have h1 := List.idxOf_lt_length_of_mem (hT.mem j hj)
  have h2 := hT.len
  unfold wayM
  rw [if_neg (by omega), Int.toNat_natCast]
  omega
theorem wayM_step {n : Nat} {L : El} {ord : List Nat} (hT : Gr.Topo n L ord) {E T : Tm} {at' : Int} {j : Nat} (hj : j < n) : wayM n ord (leastI (fun k => stepB L E T j k at') n) < wayM n ord j := by
  have h0 := wayM_pos hT hj
  unfold leastI
  split
  · rename_i k hk
    have hkn := List.mem_range.1 (List.mem_of_find?_eq_some hk)
    have hs := List.find?_some hk
    unfold stepB at hs
    obtain ⟨⟨x, y⟩, hx, hxy⟩ := List.any_eq_true.1 hs
    simp only [Bool.and_eq_true, beq_iff_eq] at hxy
    obtain ⟨⟨rfl, rfl⟩, _⟩ := hxy
    have he : Gr.ed L j k := hx
    have hik := List.idxOf_lt_length_of_mem (hT.mem k hkn)
    have hij := List.idxOf_lt_length_of_mem (hT.mem j hj)
    obtain ⟨s, hs1, hs2⟩ := hT.pred (ord.idxOf k) k j (by rw [List.getElem?_eq_getElem hik, List.getElem_idxOf]) he
    have := hT.inj s (ord.idxOf j) j hs2 (by rw [List.getElem?_eq_getElem hij, List.getElem_idxOf])
    have h2 := hT.len
    unfold wayM
    rw [if_neg (by omega), if_neg (by omega), Int.toNat_natCast, Int.toNat_natCast]
    omega
  · unfold wayM at h0 ⊢
    rw [if_pos (by omega)]
    exact h0
theorem leastI_lt (p : Nat → Bool) (n : Nat) : leastI p n < n := by
  unfold leastI
  split
  · rename_i i h
    have := List.mem_range.1 (List.mem_of_find?_eq_some h)
    omega
  · omega
theorem fine_early {n : Nat} {L : El} {D : List Int} {E : Tm} (hF : Fine n L D) (hE : Gr.IsE n L (dur D) E) (i : Nat) (hi : i < n) : 0 ≤ E i ∧ E i ≤ 60000000000 := by
  obtain ⟨_, z1, _, _, g2, g3⟩ := graphE_good hF.g
  refine ⟨hE.pos i hi, ?_⟩
  have h1 := Gr.early_bound (Gr.topo (okG g3) hF.k) hE (M := 1000000000) (by omega) (fun j hj => by
    have hl : j < D.length := by have := hF.len; omega
    have hx : D[j]? = some D[j] := List.getElem?_eq_getElem hl
    have e : dur D j = D[j] := by simp [dur, List.getD, hx]
    rw [e]
    exact (okD_at hF.d hx).2) (okG g3) i hi
  have h2 : (n : Int) * 1000000000 ≤ 60 * 1000000000 := Int.mul_le_mul_of_nonneg_right (by omega) (by omega)
  omega
theorem one_row (w : World) (t : TypeId) (v : Value) {H : Nat} (h : w.heap.size = H) : (w.alloc (.cells #[v] t)).rowIs H t 1 (fun _ => v) := by
  subst h
  refine World.rowIs_alloc w _ _ _ fun i hi => ?_
  have hi : i < 1 := hi
  obtain rfl : i = 0 := by omega
  rfl
theorem way_plan (w1 : World) (n ge gl : Nat) (E T : Tm) (S : Int) (v : Value) (h1 : w1.rowIs ge 2 n (i64s E)) (h2 : w1.rowIs gl 2 n (i64s T)) :
    PlanIs n ge gl w1.heap.size E T S ((w1.alloc (.cells #[.slice (some ⟨ge, 0, none⟩) n n, .slice (some ⟨gl, 0, none⟩) n n, .int .i64 S] 55)).alloc (.cells #[v] 185)) :=
  ⟨(h1.alloc _).alloc _, (h2.alloc _).alloc _, (World.rowIs_alloc w1 _ _ _ fun i hi => by
    have hi : i < 3 := hi
    have : i = 0 ∨ i = 1 ∨ i = 2 := by omega
    rcases this with rfl | rfl | rfl <;> rfl).alloc _⟩
theorem way_tight (w1 : World) (c : Obj) (v : Value) (W' : World) (hb : Below ((w1.alloc c).alloc (.cells #[v] 185)).heap.size ((w1.alloc c).alloc (.cells #[v] 185)) W') : W'.cell? ⟨w1.heap.size + 1, 0, none⟩ = some v := by
  have h := one_row (w1.alloc c) 185 v (H := w1.heap.size + 1) (by simp)
  exact (rowIs_below h hb h.lt).cell (i := 0) (by omega)
theorem way_var (w w1 : World) (n : Nat) (L : El) (a : Option Addr) (l cap : Nat) (c c2 : Obj) (hb : Below ((w.alloc (.cells #[.int .i64 (n : Int)] 3)).alloc (.cells #[.slice a l cap] 35)).heap.size ((w.alloc (.cells #[.int .i64 (n : Int)] 3)).alloc (.cells #[.slice a l cap] 35)) w1) : ((w1.alloc c).alloc c2).cell? ⟨w.heap.size, 0, none⟩ = some (.int .i64 n) := by
  have h := (one_row w 3 (.int .i64 (n : Int)) rfl).alloc (.cells #[.slice a l cap] 35)
  exact (((rowIs_below h hb h.lt).alloc c).alloc c2).cell (i := 0) (by omega)
theorem way_edges (w w1 : World) (n : Nat) (a : Option Addr) (l cap : Nat) (c c2 : Obj) (hb : Below ((w.alloc (.cells #[.int .i64 (n : Int)] 3)).alloc (.cells #[.slice a l cap] 35)).heap.size ((w.alloc (.cells #[.int .i64 (n : Int)] 3)).alloc (.cells #[.slice a l cap] 35)) w1) : ((w1.alloc c).alloc c2).cell? ⟨w.heap.size + 1, 0, none⟩ = some (.slice a l cap) := by
  have h := one_row (w.alloc (.cells #[.int .i64 (n : Int)] 3)) 35 (.slice a l cap) (H := w.heap.size + 1) (by simp)
  exact (((rowIs_below h hb h.lt).alloc c).alloc c2).cell (i := 0) (by omega)
theorem way_ok4 (n ge gl gp gt ga gw gd : Nat) (E T : Tm) (S : Int) (L : El) (a : Option Addr) (l cap c : Nat) (at' : Int) (W : World) (hn : l = L.length) (hmax : l ≤ 400) (hL : Edges W a L) (h : PlanIs n ge gl gp E T S W) (ha : W.cell? ⟨ga, 0, none⟩ = some (.slice a l cap)) (hw : W.cell? ⟨gw, 0, none⟩ = some (.int .i64 c)) (ht : W.cell? ⟨gt, 0, none⟩ = some (.func (.func 115) #[] #[.pointer (some ⟨gp, 0, none⟩)])) (hd : W.cell? ⟨gd, 0, none⟩ = some (.int .i64 at'))
    (la : ga < W.heap.size) (lw : gw < W.heap.size) (lt : gt < W.heap.size) (ld : gd < W.heap.size) :
    ∀ W', Below W.heap.size W W' → ∀ i, i < n → Calls Try.prog 118 #[.int .i64 i, .pointer (some ⟨ga, 0, none⟩), .pointer (some ⟨gw, 0, none⟩), .pointer (some ⟨gt, 0, none⟩), .pointer (some ⟨gd, 0, none⟩)] W' fun e w' => e = .returned (.bool (stepB L E T c i at')) ∧ Below W'.heap.size W' w' := fun W' hb i hi =>
  ok4_any n ge gl gp gt ga gw gd E T S L a l cap c i at' W' hi hn hmax (hL.below hb (Nat.le_refl _)) (h.below hb) ((hb.cell (p := ⟨ga, 0, none⟩) la).trans ha) ((hb.cell (p := ⟨gw, 0, none⟩) lw).trans hw) ((hb.cell (p := ⟨gt, 0, none⟩) lt).trans ht) ((hb.cell (p := ⟨gd, 0, none⟩) ld).trans hd) (by have := hb.size; omega) (by have := hb.size; omega) (by have := hb.size; omega) (by have := hb.size; omega)
def WayPost (n : Nat) (L : El) (D : List Int) (w : World) (e : Ending) (w' : World) : Prop := ∃ (E T : Tm) (S : Int) (row : List Nat), Gr.IsE n L (dur D) E ∧ Gr.IsS n (dur D) E S ∧ Gr.IsL n L (dur D) S T ∧ WayR n L (dur D) E T S (leastI (fun i => E i == 0 && T i == 0) n) row ∧ Nats2 row w e w'
set_option maxHeartbeats 4000000 in
theorem Way_good (n : Nat) (L : El) (D : List Int) (a b : Option Addr) (l cap m cap2 : Nat) (w : World) (hn : l = L.length) (hL : Edges w a L) (hm : m = D.length) (hD : Vals w b (ints D)) (hF : Fine n L D) :
    Calls Try.prog 31 #[.int .i64 n, .slice a l cap, .slice b m cap2] w (WayPost n L D w) := by
  have HL := Lib.hid hL
  have HN := Lib.hid hn
  have HD := Lib.hid hD
  have HM := Lib.hid hm
  have HF := Lib.hid hF
  have h60 : n ≤ 60 := by obtain ⟨_, z1, _⟩ := graphE_good hF.g; omega
  obtain ⟨ord, hord⟩ : ∃ r, r = (Gr.steps n L n).row := ⟨_, rfl⟩
  have HTO : Hid (Gr.Topo n L ord) := Lib.hid (by obtain ⟨_, z1, _, _, g2, g3⟩ := graphE_good hF.g; rw [hord]; exact Gr.topo (okG g3) hF.k)
  clear hord
  clear hL hn hD hm hF
  go_enter Try.func31, Try.ntmps31
  have hbW : Below w.heap.size w ((w.alloc (.cells #[.int .i64 (n : Int)] 3)).alloc (.cells #[.slice a l cap] 35)) := ((Below.refl _ _).alloc (Nat.le_refl _) _).alloc (by simp) _
  have HBW := Lib.hid hbW
  clear hbW
  go_wp2_with (first
    | (go_at_call 29; refine Calls.mono (Times_good n L D _ _ _ _ _ _ _ HN.out (HL.out.below HBW.out (Nat.le_refl _)) HM.out (HD.out.below HBW.out (Nat.le_refl _)) HF.out) ?_; rintro e w1 ⟨ge, gl, E, T, S, rfl, hE, hS, hT, hRE, hRT, hne, hge, hgl, hB1⟩; have HE := Lib.hid hE; have HS := Lib.hid hS; have HT := Lib.hid hT; have HRE := Lib.hid hRE; have HRT := Lib.hid hRT; have HB1 := Lib.hid hB1; clear hE hS hT hRE hRT; have hr9 := one_row (w1.alloc (.cells #[.slice (some ⟨ge, 0, none⟩) n n, .slice (some ⟨gl, 0, none⟩) n n, .int .i64 S] 55)) 185 .nilFunc (H := w1.heap.size + 1) (by simp); have g0 := hr9.cell (i := 0) (by omega); have g1 := hr9.frozen 0; have g2 := hr9.lt)
    | (go_at_call 116; refine Calls.mono (least3 n (fun i => E i == 0 && T i == 0) (w.heap.size) (w1.heap.size + 1) _ h60 (way_var w w1 n L a l cap _ _ HB1.out) (fun W' hb i hi => ok3_any n ge gl w1.heap.size (w1.heap.size + 1) E T S i W' hi ((way_plan w1 n ge gl E T S _ HRE.out HRT.out).below hb) (way_tight w1 _ _ W' hb))) ?_; rintro e w2 ⟨rfl, hB2⟩))
  obtain ⟨i0, hi0⟩ : ∃ i, i = leastI (fun i => E i == 0 && T i == 0) n := ⟨_, rfl⟩
  rw [← hi0]
  have HP0 := way_plan w1 n ge gl E T S (.func (.func 115) #[] #[.pointer (some ⟨w1.heap.size, 0, none⟩)]) HRE.out HRT.out
  have HPL := Lib.hid (HP0.below hB2)
  have HTI := Lib.hid (way_tight w1 (.cells #[.slice (some ⟨ge, 0, none⟩) n n, .slice (some ⟨gl, 0, none⟩) n n, .int .i64 S] 55) (.func (.func 115) #[] #[.pointer (some ⟨w1.heap.size, 0, none⟩)]) w2 hB2)
  have HNV := Lib.hid ((hB2.cell (p := ⟨w.heap.size, 0, none⟩) (by have := (HBW.out.trans (HB1.out.mono HBW.out.size)).size; have h := HB1.out.size; simp at h ⊢; omega)).trans (way_var w w1 n L a l cap (.cells #[.slice (some ⟨ge, 0, none⟩) n n, .slice (some ⟨gl, 0, none⟩) n n, .int .i64 S] 55) (.cells #[.func (.func 115) #[] #[.pointer (some ⟨w1.heap.size, 0, none⟩)]] 185) HB1.out))
  have HEV := Lib.hid ((hB2.cell (p := ⟨w.heap.size + 1, 0, none⟩) (by have h := HB1.out.size; simp at h ⊢; omega)).trans (way_edges w w1 n a l cap (.cells #[.slice (some ⟨ge, 0, none⟩) n n, .slice (some ⟨gl, 0, none⟩) n n, .int .i64 S] 55) (.cells #[.func (.func 115) #[] #[.pointer (some ⟨w1.heap.size, 0, none⟩)]] 185) HB1.out))
  have h11 : w.heap.size + 2 ≤ w1.heap.size := by have h := HB1.out.size; simp at h; omega
  have HB2W := Lib.hid (show Below w.heap.size w w2 from ((((HBW.out.trans (HB1.out.mono HBW.out.size)).alloc (HBW.out.trans (HB1.out.mono HBW.out.size)).size _).alloc (by have := (HBW.out.trans (HB1.out.mono HBW.out.size)).size; simp; omega) _).trans (hB2.mono (by have := (HBW.out.trans (HB1.out.mono HBW.out.size)).size; simp; omega))))
  have h21 := hB2.size
  simp only [World.size_alloc] at h21
  clear HP0
  have HI0 := Lib.hid hi0
  clear hi0
  go_loopw [12, 13] (fun v x wr => ∃ (row : List Nat) (i : Int), x = .int .i64 i ∧ Hid (wr.ownsRow w2.heap.size 3 1 v row.length (nats row)) ∧ Hid (∀ l', WayR n L (dur D) E T S i l' → WayR n L (dur D) E T S i0 (row ++ l')) ∧ i < n ∧ row.length + wayM n ord i ≤ n + 1 ∧ Below w2.heap.size w2 wr) (fun _ x _ => wayM n ord (intOf x))
  case atStart => exact ⟨[], i0, rfl, Lib.hid (World.ownsRow_nil _ _ _ _), Lib.hid (fun l' h => h), by rw [HI0.out]; exact leastI_lt _ _, by have := wayM_le n ord i0; simpa using this, Below.refl _ _⟩
  case round =>
    obtain ⟨row, i, rfl, HOW, HWR, hin, hrl, hB⟩ := hrel
    by_cases hi : 0 ≤ i
    · obtain ⟨j, rfl⟩ := Int.eq_ofNat_of_zero_le hi
      have hjn : j < n := by omega
      have hrl2 : row.length ≤ n := by have := wayM_pos HTO.out hjn; omega
      have hsz := hB.size
      have hiw : decide ((0 : Int) ≤ (j : Int)) = true := by simp
      go_wp2_with (at_builtin; refine wpList_push _ (by rfl) _ _ 58 (by rfl) w2.heap.size 3 (.int .i64 0) 8 Try.underlying58 infoInt (by rfl) u12 row.length _ (nat1 j) _ rfl (by rfl) HOW.out (by rfl) (by rfl) (by unfold maxLen; omega) (by omega) (by omega) ?_; intro gg cap3 w4 hown1 hgrow1 hgb hgl; have HPU := Lib.hid hown1; have hB5 := hB.grown hgrow1 hsz (ownBlock_ge HOW.out (Nat.le_refl _)); clear hown1 hgrow1 hgb)
      have hs4 := hB5.size
      have HP4 := Lib.hid (HPL.out.below hB5)
      have e1 := HP4.out.early.cell hjn
      have e2 := HP4.out.late.cell hjn
      unfold i64s at e1 e2
      have p0 : w4.cell? ⟨w1.heap.size, 0, none⟩ = some (.slice (some ⟨ge, 0, none⟩) n n) := HP4.out.var.cell (i := 0) (by omega)
      have p2 : w4.cell? ⟨w1.heap.size, 2, none⟩ = some (.int .i64 S) := HP4.out.var.cell (i := 2) (by omega)
      have l1 := HP4.out.early.lt
      have l2 := HP4.out.var.lt
      obtain ⟨bd, od, rfl, hbd, hatd⟩ := HD.out (by simp [ints]; have := HM.out; have := HF.out.len; omega)
      have d1 := ((HB2W.out.trans (hB5.mono HB2W.out.size)).cell (p := ⟨bd, od + j, none⟩) hbd).trans (hatd j (.int .i64 (dur D j)) (by simp [ints, dur, List.getElem?_eq_getElem (show j < D.length by have := HF.out.len; omega)]))
      have lbd : bd < w4.heap.size := by have := HB2W.out.size; omega
      clear hatd
      go_cut [14] (fun p W => ∃ g, p = .pointer (some ⟨g, 0, none⟩) ∧ W.cell? ⟨g, 0, none⟩ = some (.int .i64 (E j + dur D j)) ∧ g < W.heap.size ∧ Below w4.heap.size w4 W)
      case first =>
        have hj0 : (0 : Int) ≤ (j : Int) := by omega
        have hj1 : (j : Int) < (n : Int) := by omega
        have hj2 : (j : Int) < (m : Int) := by have := HM.out; have := HF.out.len; omega
        have hj3 : j < m := by omega
        obtain ⟨_, dj0, dj1⟩ : True ∧ 0 ≤ dur D j ∧ dur D j ≤ 1000000000 := ⟨trivial, okD_at HF.out.d (show D[j]? = some (dur D j) by simp [dur, List.getElem?_eq_getElem (show j < D.length by have := HF.out.len; omega)])⟩
        have hw1 : IntKind.i64.wrap (E j + dur D j) = E j + dur D j := IntWalk.i64_in _ (by have := fine_early HF.out HE.out j hjn; omega)
        go_region
        all_goals
          go_wp2_with fail
          go_meet
          exact ⟨w4.heap.size, rfl, (one_row w4 2 _ rfl).drew.cell (i := 0) (by omega), by simp, ((Below.refl _ _).alloc (Nat.le_refl _) _).drew⟩
      case rest =>
        obtain ⟨gd, rfl, hd0, ld, hB6⟩ := hcut
        have hB7 := hB5.trans (hB6.mono hs4)
        have hs7 := hB7.size
        have HP7 := Lib.hid (HPL.out.below hB7)
        have q2 : wc.cell? ⟨w1.heap.size, 2, none⟩ = some (.int .i64 S) := HP7.out.var.cell (i := 2) (by omega)
        have lq := HP7.out.var.lt
        have HPU2 := Lib.hid (ownsRow_below HPU.out hB6)
        clear p0 p2 e1 e2 d1 l1 l2 HPU
        by_cases hS : E j + dur D j = S
        · have hSb : (E j + dur D j == S) = true := by simp [hS]
          have HO2 := Lib.hid (show wc.ownsRow w2.heap.size 3 1 (.slice (some ⟨gg, 0, none⟩) (row.length + 1) cap3) (row.length + 1) (nats (row ++ [j])) from by rw [nats_snoc]; simpa using HPU2.out)
          have HV := Lib.hid (IsVals.own HO2.out)
          have HW0 := Lib.hid (HWR.out [j] (.last hS))
          go_wp2_with fail
          exact bodyPost_ret (v := .tuple #[.slice (some ⟨gg, 0, none⟩) (row.length + 1) cap3, .int .i64 0]) (by simp [results, Try.results31, go_sem]) rfl ⟨E, T, S, row ++ [j], HE.out, HS.out, HT.out, HI0.out ▸ HW0.out, _, rfl, HV.out, HB2W.out.trans (hB7.mono HB2W.out.size)⟩
        · have hSb : (E j + dur D j == S) = false := by simp [hS]
          obtain ⟨W, hWd⟩ : ∃ W, W = wc.alloc (.cells #[.int .i64 (j : Int)] 3) := ⟨_, rfl⟩
          have hB8 : Below w2.heap.size w2 W := by rw [hWd]; exact hB7.alloc hs7 _
          have hWs : W.heap.size = wc.heap.size + 1 := by rw [hWd]; simp
          have k0 : w.heap.size < w2.heap.size := by omega
          have k1 : w.heap.size + 1 < w2.heap.size := by omega
          have k2 : w1.heap.size + 1 < w2.heap.size := by omega
          have HOK := Lib.hid (way_ok4 n ge gl w1.heap.size (w1.heap.size + 1) (w.heap.size + 1) wc.heap.size gd E T S L a l cap j (E j + dur D j) W HN.out (by have := (graphE_good HF.out.g).2.2.2.2.1; have := HN.out; omega) (HL.out.below (HB2W.out.trans (hB8.mono HB2W.out.size)) (Nat.le_refl _)) (HPL.out.below hB8) ((hB8.cell (p := ⟨w.heap.size + 1, 0, none⟩) k1).trans HEV.out) (by rw [hWd]; exact (one_row wc 3 (.int .i64 (j : Int)) rfl).cell (i := 0) (by omega)) ((hB8.cell (p := ⟨w1.heap.size + 1, 0, none⟩) k2).trans HTI.out) (by rw [hWd]; exact ((Below.refl wc.heap.size wc).alloc (Nat.le_refl _) _ |>.cell (p := ⟨gd, 0, none⟩) ld).trans hd0) (by omega) (by omega) (by omega) (by omega))
          have HNW := Lib.hid ((hB8.cell (p := ⟨w.heap.size, 0, none⟩) k0).trans HNV.out)
          subst hWd
          go_wp2_with (go_at_call 116; refine Calls.mono (least4 n (fun k => stepB L E T j k (E j + dur D j)) w.heap.size (w.heap.size + 1) wc.heap.size (w1.heap.size + 1) gd _ h60 HNW.out HOK.out) ?_; rintro e w5 ⟨rfl, hB9⟩)
          have hB10 : Below w2.heap.size w2 w5 := hB8.trans (hB9.mono hB8.size)
          have HO2 := Lib.hid (ownsRow_below (ownsRow_below HPU2.out ((Below.refl wc.heap.size wc).alloc (Nat.le_refl _) (.cells #[.int .i64 (j : Int)] 3))) hB9)
          have HO3 : Hid (w5.ownsRow w2.heap.size 3 1 (.slice (some ⟨gg, 0, none⟩) (row.length + 1) cap3) (row ++ [j]).length (nats (row ++ [j]))) := Lib.hid (by rw [nats_snoc]; simpa using HO2.out)
          have HW2 : Hid (∀ l', WayR n L (dur D) E T S (leastI (fun k => stepB L E T j k (E j + dur D j)) n) l' → WayR n L (dur D) E T S i0 (row ++ [j] ++ l')) := Lib.hid fun l' h => by
            rw [List.append_assoc]
            exact HWR.out (j :: l') (.go hS h)
          have HMS := Lib.hid (wayM_step (E := E) (T := T) (at' := E j + dur D j) HTO.out hjn)
          go_roundw
          case rel => exact ⟨row ++ [j], _, rfl, HO3, HW2, leastI_lt _ _, by have := HMS.out; simp only [List.length_append, List.length_cons, List.length_nil]; omega, hB10⟩
          case measure => exact HMS.out
    · have HW0 := Lib.hid (HWR.out [] (.none (by omega)))
      rw [List.append_nil] at HW0
      have HV := Lib.hid (IsVals.own HOW.out)
      go_wp2_with fail
      exact bodyPost_ret (v := .tuple #[u12, .int .i64 0]) (by simp [results, Try.results31, go_sem]) rfl ⟨E, T, S, row, HE.out, HS.out, HT.out, HI0.out ▸ HW0.out, _, rfl, HV.out, HB2W.out.trans (hB.mono HB2W.out.size)⟩
end Go.Proofs.Ytfjoakhcgpckgaa
