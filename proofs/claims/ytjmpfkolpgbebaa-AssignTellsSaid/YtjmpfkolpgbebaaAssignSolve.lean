/- Contract: the solver has given each of the people a job. -/
import Derived.Test.YtjmpfkolpgbebaaAssignOne
import Derived.Test.YtjmpfkolpgbebaaAssignCheck
namespace Go.Proofs.Ytjmpfkolpgbebaa
open Go.ChangeShapes Go.WideShapes Go.ChangeAt Go.RowKit
set_option linter.unusedVariables false
open As
theorem one_at (n gs gu gv gb cap ab ao : Nat) (R : List (List Int)) (u v : Nat → Int) (b : Nat → Nat) (w w1 : World) (p : Nat) (hp : 1 ≤ p) (hn : n = R.length) (h12 : n ≤ 12) (hcap : n ≤ cap) (hcap2 : cap ≤ 9223372036854775807) (hsq : ∀ r, r ∈ R → r.length = n) (hF : Fine n (cst R)) (hT : Tbl w (some ⟨ab, ao, none⟩) R) (hW : SW n gs gu gv gb (some ⟨ab, ao, none⟩) cap u v b w w1) (hG : Got n (p - 1) (cst R) b u v) (hi : p ≤ n) :
    Calls Try.prog 16 #[.pointer (some ⟨gs, 0, none⟩), .int .i64 (p : Int)] w1 fun e w' => e = .returned (.tuple #[]) ∧ OneP n (p - 1) gs gu gv gb (some ⟨ab, ao, none⟩) cap (cst R) w w' := by
  have := one_any n gs gu gv gb cap ab ao R u v b w w1 (p - 1) hn h12 hcap hcap2 hsq hF hT hW hG (by omega)
  rwa [show p - 1 + 1 = p from by omega] at this
theorem made2 (w : World) (o : Obj) (z : Value) (n : Nat) (t : TypeId) : ((w.alloc o).alloc (.cells (madeCells #[z] n) t)).rowIs (w.heap.size + 1) t n (fun _ => z) := rowIs_made_at _ _ _ _ (by simp)
theorem made3 (w : World) (o o' : Obj) (z : Value) (n : Nat) (t : TypeId) : (((w.alloc o).alloc o').alloc (.cells (madeCells #[z] n) t)).rowIs (w.heap.size + 1 + 1) t n (fun _ => z) := rowIs_made_at _ _ _ _ (by simp)
def SolvP (n : Nat) (a : Option Addr) (cap : Nat) (w : World) (p : Value) (W : World) : Prop := ∃ gs gu gv gb, p = .pointer (some ⟨gs, 0, none⟩) ∧ SW n gs gu gv gb a cap (fun _ => 0) (fun _ => 0) (fun _ => 0) w W
theorem sol_row (W : World) (a : Option Addr) (n cap gu gv gb gs : Nat) (h : W.heap.size = gs) : (W.alloc (.cells #[.slice a n cap, .slice (some ⟨gu, 0, none⟩) (n + 1) (n + 1), .slice (some ⟨gv, 0, none⟩) (n + 1) (n + 1), .slice (some ⟨gb, 0, none⟩) (n + 1) (n + 1)] 41)).rowIs gs 41 4 (solF a n cap gu gv gb) := by
  subst h
  exact World.rowIs_alloc W _ _ _ (fun i hi => by
    have : i = 0 ∨ i = 1 ∨ i = 2 ∨ i = 3 := by simp at hi; omega
    rcases this with rfl | rfl | rfl | rfl <;> rfl)
theorem sw_make {n : Nat} {a : Option Addr} {cap : Nat} {w W' : World} {gs gu gv gb : Nat} (hb : Below w.heap.size w W')
    (rs : W'.rowIs gs 41 4 (solF a n cap gu gv gb)) (ru : W'.rowIs gu 2 (n + 1) (i64s fun _ => 0)) (rv : W'.rowIs gv 2 (n + 1) (i64s fun _ => 0)) (rb : W'.rowIs gb 3 (n + 1) (natsI fun _ => 0)) (l1 : w.heap.size ≤ gs) (l2 : w.heap.size ≤ gu) (l3 : w.heap.size ≤ gv) (l4 : w.heap.size ≤ gb) (n1 : gs ≠ gu) (n2 : gs ≠ gv) (n3 : gs ≠ gb) (n4 : gu ≠ gv) (n5 : gu ≠ gb) (n6 : gv ≠ gb) :
    SolvP n a cap w (.pointer (some ⟨gs, 0, none⟩)) W' := ⟨gs, gu, gv, gb, rfl, rs, ru, rv, rb, n1, n2, n3, n4, n5, n6, l1, l2, l3, l4, hb⟩
def SolveP (n : Nat) (a : Option Addr) (cap : Nat) (C : Nat → Nat → Int) (w : World) (e : Ending) (w' : World) : Prop := ∃ gs gu gv gb u v b, e = .returned (.pointer (some ⟨gs, 0, none⟩)) ∧ SW n gs gu gv gb a cap u v b w w' ∧ Got n n C b u v
set_option maxRecDepth 20000 in
set_option maxHeartbeats 4000000 in
theorem solve_any (R : List (List Int)) (a : Option Addr) (n cap : Nat) (w : World) (hn : n = R.length) (hcap : n ≤ cap) (hcap2 : cap ≤ 9223372036854775807) (hT : Tbl w a R) (hE : costsE R = 0) :
    Calls Try.prog 12 #[.slice a n cap] w fun e w' => SolveP n a cap (cst R) w e w' := by
  obtain ⟨h12, hsq, hF⟩ := costsE_good hE
  rw [← hn] at h12 hsq hF
  have HN := Lib.hid hn
  have HSQ := Lib.hid hsq
  have HF := Lib.hid hF
  have HT := Lib.hid hT
  clear hn hsq hF hT hE
  have hw1 : IntKind.i64.wrap ((n : Int) + 1) = ((n + 1 : Nat) : Int) := by rw [IntWalk.i64_in _ (by omega)]; omega
  have hmkI := run_make_row' (P := Try.prog) 27 2 (.int .i64 0) 8 Try.underlying27 infoI64 rfl .i64 .i64 (n + 1) (by omega) (by omega)
  have hmkJ := run_make_row' (P := Try.prog) 23 3 (.int .i64 0) 8 Try.underlying23 infoInt rfl .i64 .i64 (n + 1) (by omega) (by omega)
  rw [show ((n + 1 : Nat) : Int) = (n : Int) + 1 from by omega] at hmkI hmkJ hw1
  go_enter Try.func12, Try.ntmps12
  go_upto_region 2 with fail
  go_cut [4] (fun p W => SolvP n a cap w p W)
  case first =>
    go_region
    all_goals
      go_wp2_with fail
      go_meet
    all_goals
      go_light
      refine sw_make ?_ (by first | exact sol_row _ _ _ _ _ _ _ _ (by simp) | exact (sol_row _ _ _ _ _ _ _ _ (by simp)).drew) ?_ ?_ ?_ ?_ ?_ ?_ ?_ ?_ ?_ ?_ ?_ ?_ ?_
      · first | exact (((((Below.refl _ _).alloc (Nat.le_refl _) _).alloc (by simp) _).alloc (by simp; omega) _).alloc (by simp; omega) _).drew | exact ((((Below.refl _ _).alloc (Nat.le_refl _) _).alloc (by simp) _).alloc (by simp; omega) _).alloc (by simp; omega) _
      · first | exact ((((rowIs_made_at _ _ _ _ rfl).alloc _).alloc _).alloc _).drew | exact (((made2 _ _ _ _ _).alloc _).alloc _).drew | exact ((made3 _ _ _ _ _ _).alloc _).drew | exact (((rowIs_made_at _ _ _ _ rfl).alloc _).alloc _).alloc _ | exact ((made2 _ _ _ _ _).alloc _).alloc _ | exact (made3 _ _ _ _ _ _).alloc _
      · first | exact ((((rowIs_made_at _ _ _ _ rfl).alloc _).alloc _).alloc _).drew | exact (((made2 _ _ _ _ _).alloc _).alloc _).drew | exact ((made3 _ _ _ _ _ _).alloc _).drew | exact (((rowIs_made_at _ _ _ _ rfl).alloc _).alloc _).alloc _ | exact ((made2 _ _ _ _ _).alloc _).alloc _ | exact (made3 _ _ _ _ _ _).alloc _
      · first | exact ((((rowIs_made_at _ _ _ _ rfl).alloc _).alloc _).alloc _).drew | exact (((made2 _ _ _ _ _).alloc _).alloc _).drew | exact ((made3 _ _ _ _ _ _).alloc _).drew | exact (((rowIs_made_at _ _ _ _ rfl).alloc _).alloc _).alloc _ | exact ((made2 _ _ _ _ _).alloc _).alloc _ | exact (made3 _ _ _ _ _ _).alloc _
      all_goals omega
  case rest =>
    obtain ⟨gs, gu, gv, gb, rfl, hSW⟩ := hcut
    have HSW := Lib.hid hSW
    have HG0 := Lib.hid (Got.zero n (cst R))
    clear hSW hmkI hmkJ
    go_wp2_with fail
    go_loopg [5] n (fun g y wr => ∃ (p : Nat) (u v : Nat → Int) (b : Nat → Nat), p + g = n + 1 ∧ 1 ≤ p ∧ y = .int .i64 (p : Int) ∧ Hid (SW n gs gu gv gb a cap u v b w wr) ∧ Hid (Got n (p - 1) (cst R) b u v))
    case atStart => exact ⟨1, _, _, _, by omega, by omega, rfl, HSW, HG0⟩
    case round =>
      clear HSW HG0
      obtain ⟨p, u, v, b, hp, hp1, rfl, HSW, HG⟩ := hrel
      by_cases hpn : p ≤ n
      · obtain ⟨ab, ao, rfl, _, _⟩ := HT.out (by have := HN.out; omega)
        have HC := Lib.hid (one_at n gs gu gv gb cap ab ao R u v b w wr p hp1 HN.out h12 hcap hcap2 HSQ.out HF.out HT.out HSW.out HG.out hpn)
        have hlt : (p : Int) < (n : Int) + 1 := by omega
        go_wp2_with (go_at_call 16; refine Calls.mono HC.out ?_; rintro e w2 ⟨rfl, u2, v2, b2, h1, h2⟩; have HS2 := Lib.hid h1; have HG2 : Hid (Got n (p + 1 - 1) (cst R) b2 u2 v2) := Lib.hid (by rw [show p + 1 - 1 = p - 1 + 1 from by omega]; exact h2); clear h1 h2)
        go_roundg (n + 1 - (p + 1))
        case measure => omega
        case rel => exact ⟨p + 1, u2, v2, b2, by omega, by omega, by simp, HS2, HG2⟩
      · obtain rfl : p = n + 1 := by omega
        have HGN : Hid (Got n n (cst R) b u v) := Lib.hid (by have := HG.out; rwa [Nat.add_sub_cancel] at this)
        go_wp2_with fail
        go_ret
        exact ⟨gs, gu, gv, gb, u, v, b, rfl, HSW.out, HGN.out⟩
end Go.Proofs.Ytjmpfkolpgbebaa
