/- Contract: one more of the people gets a job. -/
import Derived.Test.YtjmpfkolpgbebaaAssignW
import Derived.Deep.Light
namespace Go.Proofs.Ytjmpfkolpgbebaa
open Go.ChangeShapes Go.WideShapes Go.ChangeAt Go.RowKit
set_option linter.unusedVariables false
open As
namespace As
variable {n : Nat} {C : Nat → Nat → Int} {b : Nat → Nat} {u v low : Nat → Int} {fr : Nat → Nat} {sn : Nat → Bool} {a q : Nat}
theorem lowQ_one : lowQ C b u v low sn a 1 = low := funext fun k => by rw [lowQ, if_neg (by omega)]
theorem frQ_one : frQ C b u v low fr sn a 1 = fr := funext fun k => by rw [frQ, if_neg (by omega)]
theorem lowQ_at : lowQ C b u v low sn a q q = low q := by rw [lowQ, if_neg (by omega)]
theorem lowQ_keep (h : sn q = true ∨ ¬ over C b u v a q < low q) : lowQ C b u v low sn a (q + 1) = lowQ C b u v low sn a q := funext fun k => by
  unfold lowQ
  by_cases e : k = q
  · subst e
    rw [if_neg (fun hc => h.elim (fun h => by rw [h] at hc; cases hc.2.2.1) (fun h => h hc.2.2.2)), if_neg (by omega)]
  · have : (1 ≤ k ∧ k < q + 1 ∧ sn k = false ∧ over C b u v a k < low k) ↔ (1 ≤ k ∧ k < q ∧ sn k = false ∧ over C b u v a k < low k) := by
      constructor
      · rintro ⟨h1, h2, h3⟩; exact ⟨h1, by omega, h3⟩
      · rintro ⟨h1, h2, h3⟩; exact ⟨h1, by omega, h3⟩
    simp only [this]
theorem frQ_keep (h : sn q = true ∨ ¬ over C b u v a q < low q) : frQ C b u v low fr sn a (q + 1) = frQ C b u v low fr sn a q := funext fun k => by
  unfold frQ
  by_cases e : k = q
  · subst e
    rw [if_neg (fun hc => h.elim (fun h => by rw [h] at hc; cases hc.2.2.1) (fun h => h hc.2.2.2)), if_neg (by omega)]
  · have : (1 ≤ k ∧ k < q + 1 ∧ sn k = false ∧ over C b u v a k < low k) ↔ (1 ≤ k ∧ k < q ∧ sn k = false ∧ over C b u v a k < low k) := by
      constructor
      · rintro ⟨h1, h2, h3⟩; exact ⟨h1, by omega, h3⟩
      · rintro ⟨h1, h2, h3⟩; exact ⟨h1, by omega, h3⟩
    simp only [this]
theorem lowQ_take (h1 : 1 ≤ q) (hs : sn q = false) (ho : over C b u v a q < low q) : lowQ C b u v low sn a (q + 1) = put (lowQ C b u v low sn a q) q (over C b u v a q) := funext fun k => by
  unfold put lowQ
  by_cases e : k = q
  · subst e
    rw [if_pos ⟨h1, by omega, hs, ho⟩, if_pos rfl]
  · rw [if_neg e]
    have : (1 ≤ k ∧ k < q + 1 ∧ sn k = false ∧ over C b u v a k < low k) ↔ (1 ≤ k ∧ k < q ∧ sn k = false ∧ over C b u v a k < low k) := by
      constructor
      · rintro ⟨h1, h2, h3⟩; exact ⟨h1, by omega, h3⟩
      · rintro ⟨h1, h2, h3⟩; exact ⟨h1, by omega, h3⟩
    simp only [this]
theorem frQ_take (h1 : 1 ≤ q) (hs : sn q = false) (ho : over C b u v a q < low q) : frQ C b u v low fr sn a (q + 1) = put (frQ C b u v low fr sn a q) q a := funext fun k => by
  unfold put frQ
  by_cases e : k = q
  · subst e
    rw [if_pos ⟨h1, by omega, hs, ho⟩, if_pos rfl]
  · rw [if_neg e]
    have : (1 ≤ k ∧ k < q + 1 ∧ sn k = false ∧ over C b u v a k < low k) ↔ (1 ≤ k ∧ k < q ∧ sn k = false ∧ over C b u v a k < low k) := by
      constructor
      · rintro ⟨h1, h2, h3⟩; exact ⟨h1, by omega, h3⟩
      · rintro ⟨h1, h2, h3⟩; exact ⟨h1, by omega, h3⟩
    simp only [this]
end As
def OneP (n i gs gu gv gb : Nat) (a : Option Addr) (cap : Nat) (C : Nat → Nat → Int) (w w' : World) : Prop := ∃ u v b, SW n gs gu gv gb a cap u v b w w' ∧ Got n (i + 1) C b u v
def RowsP (n gs gu gv gb : Nat) (a : Option Addr) (cap : Nat) (u v : Nat → Int) (b : Nat → Nat) (w : World) (p q r : Value) (W : World) : Prop := ∃ gl gf gk, p = .slice (some ⟨gl, 0, none⟩) (n + 1) (n + 1) ∧ q = .slice (some ⟨gf, 0, none⟩) (n + 1) (n + 1) ∧ r = .slice (some ⟨gk, 0, none⟩) (n + 1) (n + 1) ∧ PW n gs gu gv gb gl gf gk a cap u v b (fun _ => 0) (fun _ => 0) (fun _ => false) w W
theorem pw_make {n gs gu gv gb : Nat} {a : Option Addr} {cap : Nat} {u v : Nat → Int} {b : Nat → Nat} {w W W' : World} {gl gf gk : Nat} (h : SW n gs gu gv gb a cap u v b w W) (hb : Below W.heap.size W W')
    (rl : W'.rowIs gl 2 (n + 1) (i64s fun _ => 0)) (rf : W'.rowIs gf 3 (n + 1) (natsI fun _ => 0)) (rk : W'.rowIs gk 4 (n + 1) (bools fun _ => false)) (h1 : W.heap.size ≤ gl) (h2 : W.heap.size ≤ gf) (h3 : W.heap.size ≤ gk) (n1 : gl ≠ gf) (n2 : gl ≠ gk) (n3 : gf ≠ gk) :
    RowsP n gs gu gv gb a cap u v b w (.slice (some ⟨gl, 0, none⟩) (n + 1) (n + 1)) (.slice (some ⟨gf, 0, none⟩) (n + 1) (n + 1)) (.slice (some ⟨gk, 0, none⟩) (n + 1) (n + 1)) W' := by
  have l1 := h.var.lt
  have l2 := h.ru.lt
  have l3 := h.rv.lt
  have l4 := h.rb.lt
  exact ⟨gl, gf, gk, rfl, rfl, rfl, h.step hb, rl, rf, rk, n1, n2, n3, by omega, by omega, by omega⟩
theorem As.Tree.lowB {n i : Nat} {C : Nat → Nat → Int} {z : Int} {b : Nat → Nat} {u v low : Nat → Int} {fr : Nat → Nat} {seen : Nat → Bool} {a : Nat} (h : Tree n i C z b u v low fr seen a) (hC : Fine n C) (hb : b a ≠ 0) {k : Nat} (h2 : k ≤ n) (hs : se seen a k = false) : -4000000000 ≤ lowQ C b u v low (se seen a) a (n + 1) k ∧ lowQ C b u v low (se seen a) a (n + 1) k ≤ 4000000000 := by
  have h0 : se seen a 0 = true := by
    by_cases ha : a = 0
    · rw [ha]; exact se_same _ _
    · exact se_of (h.root ha)
  have h1 : 1 ≤ k := by
    rcases Nat.eq_zero_or_pos k with e | e
    · rw [e, h0] at hs; cases hs
    · exact e
  obtain ⟨q1, q2, q3⟩ := h.lookd hC hb h1 h2 hs
  obtain ⟨j, hj⟩ : ∃ j, frQ C b u v low fr (se seen a) a (n + 1) k = j := ⟨_, rfl⟩
  rw [hj] at q2 q3
  have hjn : j ≤ n ∧ b j ≠ 0 := by
    rcases se_old q2 with rfl | q2
    · exact ⟨h.an, hb⟩
    · exact h.sn j q2
  have := h.ble hjn.1
  have := h.hi
  have b1 := h.bu hC (b j) (by omega) (by omega)
  have b2 := h.bv hC k h1 h2
  have b3 := hC.at' (p := b j) (k := k) (by omega) (by omega) h1 h2
  omega
def farF (k : Nat) : Nat → Int := fun j => if j < k then 1125899906842624 else 0
theorem PW.farK {n gs gu gv gb gl gf gk : Nat} {a : Option Addr} {cap : Nat} {u v : Nat → Int} {b fr : Nat → Nat} {seen : Nat → Bool} {w wr : World} {k : Nat} (h : PW n gs gu gv gb gl gf gk a cap u v b (farF k) fr seen w wr) : PW n gs gu gv gb gl gf gk a cap u v b (farF (k + 1)) fr seen w (wr.setCell ⟨gl, k, none⟩ (.int .i64 1125899906842624)) :=
  (h.setL k 1125899906842624).congr (funext fun j => by
    unfold put farF
    by_cases e : j = k
    · rw [if_pos (by omega), if_pos e]
    · rw [if_neg e]
      by_cases e2 : j < k
      · rw [if_pos (by omega), if_pos e2]
      · rw [if_neg (by omega), if_neg e2]) rfl
theorem PW.farAll {n gs gu gv gb gl gf gk : Nat} {a : Option Addr} {cap : Nat} {u v : Nat → Int} {b fr : Nat → Nat} {seen : Nat → Bool} {w wr : World} (h : PW n gs gu gv gb gl gf gk a cap u v b (farF (n + 1)) fr seen w wr) : PW n gs gu gv gb gl gf gk a cap u v b (fun _ => 1125899906842624) fr seen w wr :=
  ⟨h.sw, h.rl.congr (fun j hj => by unfold i64s farF; rw [if_pos hj]), h.rf, h.rk, h.n1, h.n2, h.n3, h.hl, h.hf, h.hk⟩
theorem cu_all : ∀ q, cu (fun _ => false) q = q
  | 0 => rfl
  | q + 1 => by rw [cu, cu_all q]; rfl
set_option maxRecDepth 20000 in
set_option maxHeartbeats 8000000 in
theorem one_any (n gs gu gv gb cap ab ao : Nat) (R : List (List Int)) (u v : Nat → Int) (b : Nat → Nat) (w w1 : World) (i : Nat) (hn : n = R.length) (h12 : n ≤ 12) (hcap : n ≤ cap) (hcap2 : cap ≤ 9223372036854775807) (hsq : ∀ r, r ∈ R → r.length = n) (hF : Fine n (cst R)) (hT : Tbl w (some ⟨ab, ao, none⟩) R) (hW : SW n gs gu gv gb (some ⟨ab, ao, none⟩) cap u v b w w1) (hG : Got n i (cst R) b u v) (hi : i < n) :
    Calls Try.prog 16 #[.pointer (some ⟨gs, 0, none⟩), .int .i64 ((i + 1 : Nat) : Int)] w1 fun e w' => e = .returned (.tuple #[]) ∧ OneP n i gs gu gv gb (some ⟨ab, ao, none⟩) cap (cst R) w w' := by
  have HN := Lib.hid hn
  have HSQ := Lib.hid hsq
  have HF := Lib.hid hF
  have HT := Lib.hid hT
  have HW := Lib.hid hW
  have HG := Lib.hid hG
  clear hn hsq hF hT hW hG
  obtain ⟨p, hp⟩ : ∃ p, i + 1 = p := ⟨_, rfl⟩
  rw [hp]
  have HPI := Lib.hid hp
  clear hp
  have hw1 : IntKind.i64.wrap ((n : Int) + 1) = ((n + 1 : Nat) : Int) := by rw [IntWalk.i64_in _ (by omega)]; omega
  have hmkI := run_make_row' (P := Try.prog) 27 2 (.int .i64 0) 8 Try.underlying27 infoI64 rfl .i64 .i64 (n + 1) (by omega) (by omega)
  have hmkJ := run_make_row' (P := Try.prog) 23 3 (.int .i64 0) 8 Try.underlying23 infoInt rfl .i64 .i64 (n + 1) (by omega) (by omega)
  have hmkB := run_make_row' (P := Try.prog) 42 4 (.bool false) 1 Try.underlying42 infoBool rfl .i64 .i64 (n + 1) (by omega) (by omega)
  rw [show ((n + 1 : Nat) : Int) = (n : Int) + 1 from by omega] at hmkI hmkJ hmkB hw1
  have p0 : w1.cell? ⟨gs, 0, none⟩ = some (.slice (some ⟨ab, ao, none⟩) n cap) := HW.out.var.cell (i := 0) (by omega)
  have p3 : w1.cell? ⟨gs, 3, none⟩ = some (.slice (some ⟨gb, 0, none⟩) (n + 1) (n + 1)) := HW.out.var.cell (i := 3) (by omega)
  have lgs := HW.out.var.lt
  have lgb := HW.out.rb.lt
  have b0 : w1.cell? ⟨gb, 0, none⟩ = some (.int .i64 (b 0 : Int)) := HW.out.rb.cell (i := 0) (by omega)
  have f0 := HW.out.rb.frozen 0
  have hn1 : (0 : Int) < (n : Int) + 1 := by omega
  go_enter Try.func16, Try.ntmps16
  go_upto_region 2 with fail
  obtain ⟨W2, hW2⟩ : ∃ W, W = w1.setCell ⟨gb, 0, none⟩ (.int .i64 (p : Int)) := ⟨_, rfl⟩
  have HW2 : Hid (SW n gs gu gv gb (some ⟨ab, ao, none⟩) cap u v (put b 0 p) w W2) := Lib.hid (by rw [hW2]; exact HW.out.setB 0 p)
  rw [← hW2]
  clear hW2 p0 p3 b0 f0
  go_cut [5, 6, 7] (fun x y z W => RowsP n gs gu gv gb (some ⟨ab, ao, none⟩) cap u v (put b 0 p) w x y z W)
  case first =>
    go_region
    all_goals
      go_wp2_with fail
      go_meet
    all_goals
      go_light
      refine pw_make HW2.out ?_ ?_ ?_ ?_ ?_ ?_ ?_ ?_ ?_ ?_
      · exact ((((Below.refl _ _).alloc (Nat.le_refl _) _).alloc (by simp) _).alloc (by simp; omega) _).drew
      · first | exact (((rowIs_made_at _ _ _ _ rfl).alloc _).alloc _).drew | exact ((rowIs_made_at _ _ _ _ (by simp)).alloc _).drew | exact (rowIs_made_at _ _ _ _ (by simp)).drew
      · first | exact (((rowIs_made_at _ _ _ _ rfl).alloc _).alloc _).drew | exact ((rowIs_made_at _ _ _ _ (by simp)).alloc _).drew | exact (rowIs_made_at _ _ _ _ (by simp)).drew
      · first | exact (((rowIs_made_at _ _ _ _ rfl).alloc _).alloc _).drew | exact ((rowIs_made_at _ _ _ _ (by simp)).alloc _).drew | exact (rowIs_made_at _ _ _ _ (by simp)).drew
      all_goals omega
  case rest =>
    obtain ⟨gl, gf, gz, rfl, rfl, rfl, hPW⟩ := hcut
    have HPW : Hid (PW n gs gu gv gb gl gf gz (some ⟨ab, ao, none⟩) cap u v (put b 0 p) (farF 0) (fun _ => 0) (fun _ => false) w wc) := Lib.hid (hPW.congr (funext fun j => by rw [farF, if_neg (by omega)]) rfl)
    clear hPW HW HW2 hmkI hmkJ hmkB hn1
    obtain ⟨b', hb'⟩ : ∃ x, put b 0 p = x := ⟨_, rfl⟩
    rw [hb'] at HPW
    have HB' := Lib.hid hb'
    clear hb'
    go_wp2_with fail
    go_loopg [38] (n + 1) (fun g y wr => ∃ k : Nat, k + g = n + 1 ∧ y = .int .i64 (k : Int) ∧ Hid (PW n gs gu gv gb gl gf gz (some ⟨ab, ao, none⟩) cap u v b' (farF k) (fun _ => 0) (fun _ => false) w wr))
    case atStart => exact ⟨0, by omega, rfl, HPW⟩
    case round =>
      clear HPW
      obtain ⟨k, hk, rfl, HK⟩ := hrel
      by_cases hkn : k < n + 1
      · have c0 := HK.out.rl.cell hkn
        unfold i64s at c0
        have f0 := HK.out.rl.frozen k
        have l0 := HK.out.rl.lt
        have HQ := Lib.hid HK.out.farK
        have hk1 : (0 : Int) ≤ (k : Int) := by omega
        have hk2 : (k : Int) < (n : Int) + 1 := by omega
        go_wp2_with fail
        go_roundg (n + 1 - (k + 1))
        case measure => omega
        case rel => exact ⟨k + 1, by omega, by simp, HQ⟩
      · obtain rfl : k = n + 1 := by omega
        have HPW := Lib.hid HK.out.farAll
        have HTR : Hid (Tree n p (cst R) (v 0) b' u v (fun _ => 1125899906842624) (fun _ => 0) (fun _ => false) 0) := Lib.hid (by
          rw [← HPI.out]
          exact Tree.start HG.out hi b' (by rw [← HB'.out, HPI.out]; simp [put]) (fun k hk => by rw [← HB'.out]; simp [put, hk]))
        have HZ : Hid (-1000000000 * ((p : Int) - 1) ≤ v 0 ∧ v 0 ≤ 1000000000 * ((p : Int) - 1)) := Lib.hid (by have h1 := HG.out.v0; have h2 := HPI.out; omega)
        obtain ⟨z, hz⟩ : ∃ z, v 0 = z := ⟨_, rfl⟩
        rw [hz] at HTR HZ
        have HCU := Lib.hid (cu_all (n + 1))
        clear hz HK hw1
        go_wp2_with fail
        go_loopg [9] (n + 1) (fun g y wr => ∃ (e : Nat) (u v low : Nat → Int) (fr : Nat → Nat) (seen : Nat → Bool), y = .int .i64 (e : Int) ∧ Hid (Tree n p (cst R) z b' u v low fr seen e) ∧ Hid (PW n gs gu gv gb gl gf gz (some ⟨ab, ao, none⟩) cap u v b' low fr seen w wr) ∧ Hid (cu seen (n + 1) = g))
        case atStart => exact ⟨0, u, v, _, _, _, rfl, HTR, HPW, HCU⟩
        case round =>
          clear HPW HTR HCU HG HB'
          obtain ⟨e, u, v, low, fr, seen, rfl, HTR, HPW, HCU⟩ := hrel
          have hen := HTR.out.an
          have p3 : wr.cell? ⟨gs, 3, none⟩ = some (.slice (some ⟨gb, 0, none⟩) (n + 1) (n + 1)) := HPW.out.sw.var.cell (i := 3) (by omega)
          have lgs := HPW.out.sw.var.lt
          have lgb := HPW.out.sw.rb.lt
          obtain ⟨y, hy⟩ : ∃ y, b' e = y := ⟨_, rfl⟩
          have cb : wr.cell? ⟨gb, e, none⟩ = some (.int .i64 (y : Int)) := by rw [HPW.out.sw.rb.cell (i := e) (by omega), natsI, hy]
          have he1 : (0 : Int) ≤ (e : Int) := by omega
          have he2 : (e : Int) < (n : Int) + 1 := by omega
          have HY := Lib.hid hy
          clear hy
          by_cases hy0 : y = 0
          · subst hy0
            obtain ⟨r, hTU, hRK⟩ := HTR.out.turn HY.out
            have HTU := Lib.hid hTU
            have HRK := Lib.hid hRK
            have HE0 : Hid (e ≠ 0) := Lib.hid (fun e0 => by
              have h1 := HY.out
              rw [e0, HTR.out.b0] at h1
              have := HTR.out.hi
              omega)
            have HSNN := Lib.hid HTR.out.sn
            clear hTU hRK
            go_wp2_with fail
            clear p3 lgs lgb cb
            go_loopg [9] (r e) (fun g x1 wx => ∃ (a2 : Nat) (b2 : Nat → Nat), x1 = .int .i64 (a2 : Int) ∧ Hid (Turn n p (cst R) u v fr seen r b' b2 a2) ∧ Hid (PW n gs gu gv gb gl gf gz (some ⟨ab, ao, none⟩) cap u v b2 low fr seen w wx) ∧ Hid (r a2 = g))
            case atStart => exact ⟨e, b', rfl, HTU, HPW, Lib.hid rfl⟩
            case round =>
              clear HTU HPW
              obtain ⟨a2, b2, rfl, HTU, HP, HRA⟩ := hrel
              by_cases ha : a2 = 0
              · subst ha
                have HGT : Hid (Got n (i + 1) (cst R) b2 u v) := Lib.hid (by rw [HPI.out]; exact HTU.out.done HTR.out HE0.out HF.out HZ.out)
                go_wp2_with fail
                go_end0
                exact ⟨rfl, u, v, b2, HP.out.sw, HGT.out⟩
              · have hab : ((a2 : Int) != 0) = true := by simp; omega
                obtain ⟨hT2, hr2, hfn⟩ := HTU.out.step HRK.out HSNN.out ha
                have han := HTU.out.an
                have HT2 := Lib.hid hT2
                obtain ⟨fa, hfa⟩ : ∃ x, fr a2 = x := ⟨_, rfl⟩
                obtain ⟨bf, hbf⟩ : ∃ x, b2 (fr a2) = x := ⟨_, rfl⟩
                rw [hbf] at HT2
                rw [hfa] at HT2 hr2 hfn hbf
                have HR2 := Lib.hid hr2
                have HFA := Lib.hid hfa
                have p3 : wr.cell? ⟨gs, 3, none⟩ = some (.slice (some ⟨gb, 0, none⟩) (n + 1) (n + 1)) := HP.out.sw.var.cell (i := 3) (by omega)
                have lgs := HP.out.sw.var.lt
                have lgb := HP.out.sw.rb.lt
                have lgf := HP.out.rf.lt
                have cf1 : wr.cell? ⟨gf, a2, none⟩ = some (.int .i64 (fa : Int)) := by rw [HP.out.rf.cell (i := a2) (by omega), natsI, hfa]
                have cb1 : wr.cell? ⟨gb, fa, none⟩ = some (.int .i64 (bf : Int)) := by rw [HP.out.sw.rb.cell (i := fa) (by omega), natsI, hbf]
                have ca1 : wr.cell? ⟨gb, a2, none⟩ = some (.int .i64 (b2 a2 : Int)) := by rw [HP.out.sw.rb.cell (i := a2) (by omega), natsI]
                have fa1 := HP.out.sw.rb.frozen a2
                have ha1 : (0 : Int) ≤ (a2 : Int) := by omega
                have ha2 : (a2 : Int) < (n : Int) + 1 := by omega
                have hf1 : (0 : Int) ≤ (fa : Int) := by omega
                have hf2 : (fa : Int) < (n : Int) + 1 := by omega
                clear hT2 hfa hbf hr2
                go_upto_region 30 with fail
                go_cut [172] (fun _ W => PW n gs gu gv gb gl gf gz (some ⟨ab, ao, none⟩) cap u v (put b2 a2 bf) low fr seen w W)
                case first =>
                  go_region
                  all_goals
                    go_wp2_with fail
                    go_meet
                  all_goals
                    go_light
                    first
                      | exact (HP.out.drewN 1).setB a2 bf
                      | exact HP.out.setB a2 bf
                      | exact (HP.out.step ((Below.refl _ _).drew)).setB a2 bf
                      | exact ((HP.out.setB a2 bf).step ((Below.refl _ _).drew))
                case rest =>
                  have HPC := Lib.hid hcut
                  clear hcut p3 lgs lgb lgf cf1 cb1 ca1 fa1 HP
                  have cf1 : wc.cell? ⟨gf, a2, none⟩ = some (.int .i64 (fa : Int)) := by rw [HPC.out.rf.cell (i := a2) (by omega), natsI, HFA.out]
                  have lgf := HPC.out.rf.lt
                  go_wp2_with fail
                  go_roundg (r fa)
                  case measure => have := HR2.out; have := HRA.out; omega
                  case rel => exact ⟨fa, _, rfl, HT2, HPC, Lib.hid rfl⟩
          · have hyb : ((y : Int) != 0) = true := by simp; omega
            have HBE : Hid (b' e ≠ 0) := Lib.hid (by rw [HY.out]; exact hy0)
            have hyn : 1 ≤ y ∧ y ≤ n := by have h1 := HTR.out.ble hen; have h2 := HTR.out.hi; have h3 := HY.out; omega
            have ck := HPW.out.rk.cell (i := e) (by omega)
            unfold bools at ck
            have fk := HPW.out.rk.frozen e
            have lgk := HPW.out.rk.lt
            go_upto_region 11 with fail
            obtain ⟨W3, hW3⟩ : ∃ W, W = wr.setCell ⟨gz, e, none⟩ (.bool true) := ⟨_, rfl⟩
            have HP3 : Hid (PW n gs gu gv gb gl gf gz (some ⟨ab, ao, none⟩) cap u v b' low fr (se seen e) w W3) := Lib.hid (by rw [hW3]; exact HPW.out.setS e)
            rw [← hW3]
            clear hW3 p3 lgs lgb cb ck fk lgk HPW
            have p3 : W3.cell? ⟨gs, 3, none⟩ = some (.slice (some ⟨gb, 0, none⟩) (n + 1) (n + 1)) := HP3.out.sw.var.cell (i := 3) (by omega)
            have lgs := HP3.out.sw.var.lt
            have lgb := HP3.out.sw.rb.lt
            have cb : W3.cell? ⟨gb, e, none⟩ = some (.int .i64 (y : Int)) := by rw [HP3.out.sw.rb.cell (i := e) (by omega), natsI, HY.out]
            obtain ⟨sn, hsn⟩ : ∃ x, se seen e = x := ⟨_, rfl⟩
            rw [hsn] at HP3
            have HSN := Lib.hid hsn
            have HL0 := Lib.hid (Least.zero (lowQ (cst R) b' u v low sn e 1) sn)
            have HP0 : Hid (PW n gs gu gv gb gl gf gz (some ⟨ab, ao, none⟩) cap u v b' (lowQ (cst R) b' u v low sn e 1) (frQ (cst R) b' u v low fr sn e 1) sn w W3) := Lib.hid (HP3.out.congr lowQ_one frQ_one)
            clear hsn HP3
            go_wp2_with fail
            obtain ⟨gq2, rfl⟩ : ∃ q, q = gk := ⟨_, rfl⟩
            go_loopg [11, 12, 13] n (fun g x1 x2 x3 wx => ∃ (q : Nat) (st : Int) (nx : Nat), q + g = n + 1 ∧ 1 ≤ q ∧ x3 = .int .i64 (q : Int) ∧ x1 = .int .i64 st ∧ x2 = .int .i64 (nx : Int) ∧ Hid (Least (lowQ (cst R) b' u v low sn e q) sn q st nx) ∧ Hid (PW n gs gu gv gb gl gf gz (some ⟨ab, ao, none⟩) cap u v b' (lowQ (cst R) b' u v low sn e q) (frQ (cst R) b' u v low fr sn e q) sn w wx))
            case atStart => exact ⟨1, _, 0, by omega, by omega, rfl, rfl, rfl, HL0, HP0⟩
            case round =>
              clear HL0 HP0 p3 lgs lgb cb
              obtain ⟨q, st, nx, hq, hq1, rfl, rfl, rfl, HL, HP⟩ := hrel
              by_cases hqn : q ≤ n
              · have hq2 : (q : Int) ≤ (n : Int) := by omega
                have hq3 : (0 : Int) ≤ (q : Int) := by omega
                have hq4 : (q : Int) < (n : Int) + 1 := by omega
                have ck := HP.out.rk.cell (i := q) (by omega)
                unfold bools at ck
                have lgk := HP.out.rk.lt
                cases hs : sn q with
                | true =>
                  have HQL := Lib.hid (HL.out.skip (lowQ (cst R) b' u v low sn e (q + 1)) (fun k hk => by rw [lowQ_keep (.inl hs)]) (.inl hs))
                  have HQP := Lib.hid (HP.out.congr (lowQ_keep (.inl hs)) (frQ_keep (.inl hs)))
                  rw [hs] at ck
                  clear hs
                  go_wp2_with fail
                  go_roundg (n + 1 - (q + 1))
                  case measure => omega
                  case rel => exact ⟨q + 1, st, nx, by omega, by omega, by simp, rfl, rfl, HQL, HQP⟩
                | false =>
                  rw [hs] at ck
                  have HSQF := Lib.hid hs
                  clear hs
                  go_upto_region 16 with fail
                  obtain ⟨yk, hyk⟩ : ∃ k, k = y - 1 := ⟨_, rfl⟩
                  obtain ⟨qk, hqk⟩ : ∃ k, k = q - 1 := ⟨_, rfl⟩
                  obtain ⟨ab', ao', rb, ro, rc, hae, l1, c1, hrc, hrc2, l2, c2⟩ := (HT.out.below HP.out.sw.below (Nat.le_refl _)).at' (p := yk) (k := qk) HN.out HSQ.out (by omega) (by omega)
                  cases hae
                  have p0 : wr.cell? ⟨gs, 0, none⟩ = some (.slice (some ⟨ab, ao, none⟩) n cap) := HP.out.sw.var.cell (i := 0) (by omega)
                  have p1 : wr.cell? ⟨gs, 1, none⟩ = some (.slice (some ⟨gu, 0, none⟩) (n + 1) (n + 1)) := HP.out.sw.var.cell (i := 1) (by omega)
                  have p2 : wr.cell? ⟨gs, 2, none⟩ = some (.slice (some ⟨gv, 0, none⟩) (n + 1) (n + 1)) := HP.out.sw.var.cell (i := 2) (by omega)
                  have lgs := HP.out.sw.var.lt
                  have lgu := HP.out.sw.ru.lt
                  have lgv := HP.out.sw.rv.lt
                  obtain ⟨cc, hcc⟩ : ∃ x, cst R yk qk = x := ⟨_, rfl⟩
                  obtain ⟨uu, huu⟩ : ∃ x, u y = x := ⟨_, rfl⟩
                  obtain ⟨vv, hvv⟩ : ∃ x, v q = x := ⟨_, rfl⟩
                  have cu1 : wr.cell? ⟨gu, y, none⟩ = some (.int .i64 uu) := by rw [HP.out.sw.ru.cell (i := y) (by omega), i64s, huu]
                  have cv1 : wr.cell? ⟨gv, q, none⟩ = some (.int .i64 vv) := by rw [HP.out.sw.rv.cell (i := q) (by omega), i64s, hvv]
                  have bu1 := HTR.out.bu HF.out y hyn.1 hyn.2
                  have bv1 := HTR.out.bv HF.out q hq1 hqn
                  have bc1 := HF.out yk qk (by omega) (by omega)
                  rw [huu] at bu1
                  rw [hvv] at bv1
                  rw [hcc] at bc1 c2
                  have HOV : Hid (over (cst R) b' u v e q = cc - uu - vv) := Lib.hid (by rw [over, HY.out, ← hyk, ← hqk, hcc, huu, hvv])
                  have hw1 : IntKind.i64.wrap ((y : Int) - 1) = (yk : Int) := by rw [IntWalk.i64_in _ (by omega)]; omega
                  have hw2 : IntKind.i64.wrap ((q : Int) - 1) = (qk : Int) := by rw [IntWalk.i64_in _ (by omega)]; omega
                  have hw3 : IntKind.i64.wrap (cc - uu) = cc - uu := IntWalk.i64_in _ (by omega)
                  have hw4 : IntKind.i64.wrap (cc - uu - vv) = cc - uu - vv := IntWalk.i64_in _ (by omega)
                  have hy1 : (0 : Int) ≤ (yk : Int) := by omega
                  have hy2 : (yk : Int) < (n : Int) := by omega
                  have hk1 : (0 : Int) ≤ (qk : Int) := by omega
                  have hk2 : (qk : Int) < (n : Int) := by omega
                  have hy3 : (0 : Int) ≤ (y : Int) := by omega
                  have hy4 : (y : Int) < (n : Int) + 1 := by omega
                  clear hyk hqk hcc huu hvv
                  go_quiet (fail)
                  obtain ⟨W4, hW4⟩ : ∃ W, W = wr.drewN nq := ⟨_, rfl⟩
                  rw [← hW4]
                  have HP4 : Hid (PW n gs gu gv gb gl gf gz (some ⟨ab, ao, none⟩) cap u v b' (lowQ (cst R) b' u v low sn e q) (frQ (cst R) b' u v low fr sn e q) sn w W4) := Lib.hid (by rw [hW4]; exact HP.out.drewN nq)
                  obtain ⟨ov, hov⟩ : ∃ x, cc - uu - vv = x := ⟨_, rfl⟩
                  rw [hov] at HOV ⊢
                  obtain ⟨lq, hlq⟩ : ∃ x, low q = x := ⟨_, rfl⟩
                  have HLQ := Lib.hid hlq
                  have cl : W4.cell? ⟨gl, q, none⟩ = some (.int .i64 lq) := by rw [HP4.out.rl.cell (i := q) (by omega), i64s, lowQ_at, hlq]
                  have fl := HP4.out.rl.frozen q
                  have ll := HP4.out.rl.lt
                  clear hW4 hov hlq p0 p1 p2 lgs lgu lgv cu1 cv1 hw1 hw2 hw3 hw4 hy1 hy2 hk1 hk2 hy3 hy4 l1 l2 c1 c2 hrc hrc2 bu1 bv1 bc1 ck lgk
                  by_cases ho : ov < lq
                  · have cf : W4.cell? ⟨gf, q, none⟩ = some (natsI (frQ (cst R) b' u v low fr sn e q) q) := HP4.out.rf.cell (i := q) (by omega)
                    unfold natsI at cf
                    have ff := HP4.out.rf.frozen q
                    have lf := HP4.out.rf.lt
                    have hne := HP4.out.n1
                    have HO2 : Hid (over (cst R) b' u v e q < low q) := Lib.hid (by rw [HOV.out, HLQ.out]; exact ho)
                    have HEL := Lib.hid (lowQ_take hq1 HSQF.out HO2.out)
                    have HEF := Lib.hid (frQ_take (fr := fr) hq1 HSQF.out HO2.out)
                    rw [HOV.out] at HEL
                    go_upto_region 19 with fail
                    obtain ⟨W5, hW5⟩ : ∃ W, W = (W4.setCell ⟨gl, q, none⟩ (.int .i64 ov)).setCell ⟨gf, q, none⟩ (.int .i64 (e : Int)) := ⟨_, rfl⟩
                    rw [← hW5]
                    have HP5 : Hid (PW n gs gu gv gb gl gf gz (some ⟨ab, ao, none⟩) cap u v b' (lowQ (cst R) b' u v low sn e (q + 1)) (frQ (cst R) b' u v low fr sn e (q + 1)) sn w W5) := Lib.hid (by rw [hW5]; exact ((HP4.out.setL q ov).setF q e).congr HEL.out HEF.out)
                    have HLV : Hid (lowQ (cst R) b' u v low sn e (q + 1) q = ov) := Lib.hid (by rw [HEL.out, put, if_pos rfl])
                    have cl : W5.cell? ⟨gl, q, none⟩ = some (.int .i64 ov) := by rw [HP5.out.rl.cell (i := q) (by omega), i64s, HLV.out]
                    have ll := HP5.out.rl.lt
                    have HLK : Hid (∀ k, k < q → lowQ (cst R) b' u v low sn e (q + 1) k = lowQ (cst R) b' u v low sn e q k) := Lib.hid (fun k hk => by rw [HEL.out, put, if_neg (by omega)])
                    clear hW5 cf ff lf hne fl
                    by_cases hst : ov < st
                    · have HQL := Lib.hid (HL.out.take hq1 _ HLK.out HSQF.out (by rw [HLV.out]; exact hst))
                      rw [HLV.out] at HQL
                      go_wp2_with fail
                      go_roundg (n + 1 - (q + 1))
                      case measure => omega
                      case rel => exact ⟨q + 1, ov, q, by omega, by omega, by simp, rfl, rfl, HQL, HP5⟩
                    · have HQL := Lib.hid (HL.out.skip _ HLK.out (.inr (by rw [HLV.out]; omega)))
                      go_wp2_with fail
                      go_roundg (n + 1 - (q + 1))
                      case measure => omega
                      case rel => exact ⟨q + 1, st, nx, by omega, by omega, by simp, rfl, rfl, HQL, HP5⟩
                  · have HO2 : Hid (¬ over (cst R) b' u v e q < low q) := Lib.hid (by rw [HOV.out, HLQ.out]; exact ho)
                    have HEL := Lib.hid (lowQ_keep (low := low) (.inr HO2.out) : lowQ (cst R) b' u v low sn e (q + 1) = lowQ (cst R) b' u v low sn e q)
                    have HP5 := Lib.hid (HP4.out.congr HEL.out (frQ_keep (fr := fr) (.inr HO2.out)))
                    have HLV : Hid (lowQ (cst R) b' u v low sn e (q + 1) q = lq) := Lib.hid (by rw [HEL.out, lowQ_at, HLQ.out])
                    have HLK : Hid (∀ k, k < q → lowQ (cst R) b' u v low sn e (q + 1) k = lowQ (cst R) b' u v low sn e q k) := Lib.hid (fun k hk => by rw [HEL.out])
                    by_cases hst : lq < st
                    · have HQL := Lib.hid (HL.out.take hq1 _ HLK.out HSQF.out (by rw [HLV.out]; exact hst))
                      rw [HLV.out] at HQL
                      go_wp2_with fail
                      go_roundg (n + 1 - (q + 1))
                      case measure => omega
                      case rel => exact ⟨q + 1, lq, q, by omega, by omega, by simp, rfl, rfl, HQL, HP5⟩
                    · have HQL := Lib.hid (HL.out.skip _ HLK.out (.inr (by rw [HLV.out]; omega)))
                      go_wp2_with fail
                      go_roundg (n + 1 - (q + 1))
                      case measure => omega
                      case rel => exact ⟨q + 1, st, nx, by omega, by omega, by simp, rfl, rfl, HQL, HP5⟩
              · obtain rfl : q = n + 1 := by omega
                have HM0 := Lib.hid (Moved.zero n b' sn st u v (lowQ (cst R) b' u v low sn e (n + 1)))
                have hstb : -2000000000 ≤ st ∧ st ≤ 4000000000 := by
                  have := HL.out
                  rw [← HSN.out] at this
                  have := HTR.out.step0 HF.out HBE.out this
                  omega
                have hqn2 : ¬ ((n : Int) + 1 ≤ (n : Int)) := by omega
                go_wp2_with fail
                obtain ⟨gq3, rfl⟩ : ∃ q, q = gk := ⟨_, rfl⟩
                go_loopg [15] (n + 1) (fun g x1 wx => ∃ (q : Nat) (u' v' low' : Nat → Int), q + g = n + 1 ∧ x1 = .int .i64 (q : Int) ∧ Hid (Moved n b' sn st u v (lowQ (cst R) b' u v low sn e (n + 1)) u' v' low' q) ∧ Hid (PW n gs gu gv gb gl gf gz (some ⟨ab, ao, none⟩) cap u' v' b' low' (frQ (cst R) b' u v low fr sn e (n + 1)) sn w wx))
                case atStart => exact ⟨0, _, _, _, by omega, rfl, HM0, HP⟩
                case round =>
                  clear HM0 HP
                  obtain ⟨q, u', v', low', hq, rfl, HM, HP⟩ := hrel
                  by_cases hqn : q < n + 1
                  · have hq2 : (q : Int) ≤ (n : Int) := by omega
                    have hq3 : (0 : Int) ≤ (q : Int) := by omega
                    have hq4 : (q : Int) < (n : Int) + 1 := by omega
                    have ck := HP.out.rk.cell (i := q) (by omega)
                    unfold bools at ck
                    have lgk := HP.out.rk.lt
                    cases hs : sn q with
                    | true =>
                      rw [hs] at ck
                      have HDF : Hid (∀ k, k < q → sn k = true → b' k ≠ b' q) := Lib.hid (fun k hk hsk => HTR.out.diff HBE.out (by rw [HSN.out]; exact hsk) (by omega) (by omega))
                      have HMS := Lib.hid (HM.out.seen hs HDF.out)
                      obtain ⟨yq, hyq⟩ : ∃ x, b' q = x := ⟨_, rfl⟩
                      have hyqn : 1 ≤ yq ∧ yq ≤ n := by
                        have h1 := HTR.out.ble (show q ≤ n by omega)
                        have h2 := HTR.out.hi
                        have h3 : b' q ≠ 0 := by
                          rw [← HSN.out] at hs
                          rcases se_old hs with h4 | h4
                          · rw [h4]; exact HBE.out
                          · exact (HTR.out.sn q h4).2
                        omega
                      have huo : u' (b' q) = u (b' q) := HM.out.uout (b' q) HDF.out
                      have hvo : v' q = v q := by rw [HM.out.v q, if_neg (by omega)]
                      obtain ⟨uu, huu⟩ : ∃ x, u' yq = x := ⟨_, rfl⟩
                      obtain ⟨vv, hvv⟩ : ∃ x, v' q = x := ⟨_, rfl⟩
                      have bu1 : -1000000000 ≤ uu ∧ uu ≤ 1000000000 := by
                        rw [← huu, ← hyq, huo, hyq]
                        exact HTR.out.bu HF.out yq hyqn.1 hyqn.2
                      have bv1 : -14000000000 ≤ vv ∧ vv ≤ 14000000000 := by
                        rw [← hvv, hvo]
                        by_cases hq0 : q = 0
                        · subst hq0
                          have h1 := HTR.out.v0
                          have h2 := HTR.out.bu HF.out p HTR.out.hi.1 HTR.out.hi.2
                          have h3 := HZ.out
                          have h4 := HTR.out.hi
                          omega
                        · have := HTR.out.bv HF.out q (by omega) (by omega)
                          omega
                      rw [hyq, huu, hvv] at HMS
                      have p1 : wr.cell? ⟨gs, 1, none⟩ = some (.slice (some ⟨gu, 0, none⟩) (n + 1) (n + 1)) := HP.out.sw.var.cell (i := 1) (by omega)
                      have p2 : wr.cell? ⟨gs, 2, none⟩ = some (.slice (some ⟨gv, 0, none⟩) (n + 1) (n + 1)) := HP.out.sw.var.cell (i := 2) (by omega)
                      have p3 : wr.cell? ⟨gs, 3, none⟩ = some (.slice (some ⟨gb, 0, none⟩) (n + 1) (n + 1)) := HP.out.sw.var.cell (i := 3) (by omega)
                      have lgs := HP.out.sw.var.lt
                      have lgu := HP.out.sw.ru.lt
                      have lgv := HP.out.sw.rv.lt
                      have lgb := HP.out.sw.rb.lt
                      have cu1 : wr.cell? ⟨gu, yq, none⟩ = some (.int .i64 uu) := by rw [HP.out.sw.ru.cell (i := yq) (by omega), i64s, huu]
                      have fu1 := HP.out.sw.ru.frozen yq
                      have cb1 : wr.cell? ⟨gb, q, none⟩ = some (.int .i64 (yq : Int)) := by rw [HP.out.sw.rb.cell (i := q) (by omega), natsI, hyq]
                      have hw1 : IntKind.i64.wrap (uu + st) = uu + st := IntWalk.i64_in _ (by omega)
                      have hw2 : IntKind.i64.wrap (vv - st) = vv - st := IntWalk.i64_in _ (by omega)
                      have hy3 : (0 : Int) ≤ (yq : Int) := by omega
                      have hy4 : (yq : Int) < (n : Int) + 1 := by omega
                      have HVV := Lib.hid hvv
                      clear hyq huu hvv huo hvo hs
                      go_upto_region 25 with fail
                      go_cut [137] (fun _ W => PW n gs gu gv gb gl gf gz (some ⟨ab, ao, none⟩) cap (put u' yq (uu + st)) v' b' low' (frQ (cst R) b' u v low fr sn e (n + 1)) sn w W)
                      case first =>
                        go_region
                        all_goals
                          go_wp2_with fail
                          go_meet
                        all_goals
                          go_light
                          first
                            | exact (HP.out.drewN 1).setU yq (uu + st)
                            | exact HP.out.setU yq (uu + st)
                            | exact (HP.out.step ((Below.refl _ _).drew)).setU yq (uu + st)
                            | exact ((HP.out.setU yq (uu + st)).step ((Below.refl _ _).drew))
                      case rest =>
                        have HPC := Lib.hid hcut
                        clear hcut p1 p2 p3 lgs lgu lgv lgb cu1 fu1 cb1 HP ck lgk
                        have p2 : wc.cell? ⟨gs, 2, none⟩ = some (.slice (some ⟨gv, 0, none⟩) (n + 1) (n + 1)) := HPC.out.sw.var.cell (i := 2) (by omega)
                        have lgs := HPC.out.sw.var.lt
                        have lgv := HPC.out.sw.rv.lt
                        have cv1 : wc.cell? ⟨gv, q, none⟩ = some (.int .i64 vv) := by rw [HPC.out.sw.rv.cell (i := q) (by omega), i64s, HVV.out]
                        have fv1 := HPC.out.sw.rv.frozen q
                        have HPD := Lib.hid (HPC.out.setV q (vv - st))
                        go_wp2_with fail
                        go_roundg (n + 1 - (q + 1))
                        case measure => omega
                        case rel => exact ⟨q + 1, _, _, _, by omega, by simp, HMS, HPD⟩
                    | false =>
                      rw [hs] at ck
                      have HMS := Lib.hid (HM.out.not hs)
                      obtain ⟨lq, hlq⟩ : ∃ x, low' q = x := ⟨_, rfl⟩
                      have bl1 : -4000000000 ≤ lq ∧ lq ≤ 4000000000 := by
                        have h1 := HM.out.low q
                        rw [if_neg (by omega), hlq] at h1
                        rw [h1]
                        have h2 := HTR.out.lowB HF.out HBE.out (k := q) (by omega) (by rw [HSN.out]; exact hs)
                        rw [HSN.out] at h2
                        exact h2
                      rw [hlq] at HMS
                      have cl : wr.cell? ⟨gl, q, none⟩ = some (.int .i64 lq) := by rw [HP.out.rl.cell (i := q) (by omega), i64s, hlq]
                      have fl := HP.out.rl.frozen q
                      have ll := HP.out.rl.lt
                      have hw1 : IntKind.i64.wrap (lq - st) = lq - st := IntWalk.i64_in _ (by omega)
                      have HPD := Lib.hid (HP.out.setL q (lq - st))
                      clear hlq hs
                      go_wp2_with fail
                      go_roundg (n + 1 - (q + 1))
                      case measure => omega
                      case rel => exact ⟨q + 1, _, _, _, by omega, by simp, HMS, HPD⟩
                  · obtain rfl : q = n + 1 := by omega
                    have HTN : Hid (Tree n p (cst R) z b' u' v' low' (frQ (cst R) b' u v low fr sn e (n + 1)) sn nx) := Lib.hid (by
                      have h1 := HL.out
                      have h2 := HM.out
                      rw [← HSN.out] at h1 h2 ⊢
                      exact HTR.out.step HF.out HBE.out h1 h2)
                    have HCN : Hid (cu sn (n + 1) + 1 = gq2) := Lib.hid (by rw [← HCU.out, ← HSN.out]; exact cu_se' HTR.out.as (by have := hen; omega))
                    have hqn3 : ¬ ((n : Int) + 1 ≤ (n : Int)) := by omega
                    go_wp2_with fail
                    go_roundg (cu sn (n + 1))
                    case measure => have := HCN.out; omega
                    case rel => exact ⟨nx, u', v', low', _, sn, rfl, HTN, HP, Lib.hid rfl⟩
end Go.Proofs.Ytjmpfkolpgbebaa
