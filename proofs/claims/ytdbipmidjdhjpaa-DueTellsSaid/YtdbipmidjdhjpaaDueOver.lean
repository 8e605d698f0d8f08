/- Contract: between which times there is too much to do; the program's. -/
import Derived.Test.YtdbipmidjdhjpaaDueCalls
import Derived.Laws.Rows
namespace Go.Proofs.Ytdbipmidjdhjpaa
open Go.ChangeShapes Go.WideShapes Go.ChangeAt Go.RowKit
set_option linter.unusedVariables false
/-- an element of an array by value -/
theorem run_index_arr {P : Program} {t e : TypeId} {n : Nat} {cs : Array Value} {i : Nat} {v : Value} (h : P.underlying t = some (.array n e)) (hi : i < n) (hv : cs[i]? = some v) (hz : ∀ w, (sizeOf e).run P w = .ok 1 w) (ha : ∀ w, (isAgg e).run P w = .ok false w) (w : World) : (Instr.index t (.agg cs) (.int .i64 (i : Int))).run P w = .ok v w := by
  have h1 : (0 : Int) ≤ (i : Int) := by omega
  simp [Instr.index, run_underlying h, asIntOf, h1, hi, hv, hz, ha, go_sem]
/-- what is due just then, of those that may begin from a on -/
def dueL : Tk → Int → Int → Int
  | [], _, _ => 0
  | (c, m, g) :: t, a, b => (if a ≤ c ∧ m = b then g else 0) + dueL t a b
theorem dueL_append (X Y : Tk) (a b : Int) : dueL (X ++ Y) a b = dueL X a b + dueL Y a b := by
  induction X with
  | nil => simp [dueL]
  | cons x t ih => obtain ⟨c, m, g⟩ := x; simp only [List.cons_append, dueL, ih]; omega
theorem dueL_take {L : Tk} {j : Nat} {c m g : Int} (h : L[j]? = some (c, m, g)) (a b : Int) : dueL (L.take (j + 1)) a b = dueL (L.take j) a b + (if a ≤ c ∧ m = b then g else 0) := by
  rw [List.take_add_one, h, dueL_append]
  simp [dueL]
theorem dueL_bd {L : Tk} (h : tasksB L = true) (a b : Int) : 0 ≤ dueL L a b ∧ dueL L a b ≤ 200 * L.length := by
  induction L with
  | nil => simp [dueL]
  | cons x t ih =>
    obtain ⟨c, m, g⟩ := x
    simp only [tasksB, List.all_cons, Bool.and_eq_true] at h
    have h1 := taskB_yes h.1
    have h2 := ih (by simpa [tasksB] using h.2)
    simp only [dueL, List.length_cons]
    split <;> omega
theorem needL_step (L : Tk) (a b : Int) : needL L a b = needL L a (b - 1) + dueL L a b := by
  induction L with
  | nil => rfl
  | cons x t ih =>
    obtain ⟨c, m, g⟩ := x
    simp only [needL, dueL, ih]
    by_cases h1 : a ≤ c
    · by_cases h2 : m = b
      · rw [if_pos ⟨h1, by omega⟩, if_neg (by omega), if_pos ⟨h1, h2⟩]; omega
      · by_cases h3 : m ≤ b
        · rw [if_pos ⟨h1, h3⟩, if_pos ⟨h1, by omega⟩, if_neg (by omega)]; omega
        · rw [if_neg (by omega), if_neg (by omega), if_neg (by omega)]; omega
    · rw [if_neg (by omega), if_neg (by omega), if_neg (by omega)]; omega
theorem needL_neg {L : Tk} (h : tasksB L = true) (a b : Int) (hb : b < 0) : needL L a b = 0 := by
  induction L with
  | nil => rfl
  | cons x t ih =>
    obtain ⟨c, m, g⟩ := x
    simp only [tasksB, List.all_cons, Bool.and_eq_true] at h
    have h1 := taskB_yes h.1
    have h2 := ih (by simpa [tasksB] using h.2)
    simp only [needL]
    rw [if_neg (by omega), h2]; rfl
theorem zeroArr : Try.zeroCells125 = madeCells #[.int .i64 0] 201 := by kernel_rfl
theorem arrSize : (Try.prog.info? 125).map (·.size) = some 201 := by kernel_rfl
theorem Tight_bad (L : Tk) (s : Option Addr) (n cap : Nat) (w : World) (hn : n = L.length) (hmax : n ≤ 9223372036854775807) (hL : Needs w s L) (hb : (tasksE L != 0) = true) :
    Calls Try.prog 42 #[.slice s n cap] w fun e w' => e = .returned (.tuple #[.int .i64 0, .int .i64 0, .bool false, .int .i64 (tasksE L)]) ∧ Below w.heap.size w w' := by
  have HL := Lib.hid hL
  have HN := Lib.hid hn
  clear hL hn
  go_enter Try.func42, Try.ntmps42
  go_wp2_with (go_at_call 44; refine Calls.mono (dCheck_any L _ _ _ _ HN.out hmax HL.out) ?_; rintro e w1 ⟨rfl, hB1⟩)
  exact bodyPost_ret (v := .tuple #[.int .i64 0, .int .i64 0, .bool false, .int .i64 (tasksE L)]) (by simp [results, Try.results42, go_sem]) rfl ⟨rfl, hB1⟩
set_option maxRecDepth 20000 in
set_option maxHeartbeats 4000000 in
theorem Tight_good (L : Tk) (p q : Int) (is : Bool) (s : Option Addr) (n cap : Nat) (w : World) (hn : n = L.length) (hL : Needs w s L) (hb : tasksE L = 0) (hT : TightIs L p q is) :
    Calls Try.prog 42 #[.slice s n cap] w fun e w' => e = .returned (.tuple #[.int .i64 p, .int .i64 q, .bool is, .int .i64 0]) ∧ Below w.heap.size w w' := by
  have HL := Lib.hid hL
  have HN := Lib.hid hn
  have HE := Lib.hid hb
  have hmax : n ≤ 20 := by have := (tasksE_good hb).1; omega
  have HTB := Lib.hid (tasksE_good hb).2
  have HT := Lib.hid hT
  clear hL hn hb hT
  go_enter Try.func42, Try.ntmps42
  go_wp2_with (go_at_call 44; refine Calls.mono (dCheck_any L _ _ _ _ HN.out (by omega) HL.out) ?_; rintro e w1 ⟨rfl, hB1⟩; rw [HE.out])
  go_loopw [19] (fun x wr => ∃ a : Int, 0 ≤ a ∧ a ≤ 201 ∧ x = .int .i64 a ∧ Hid (∀ u v, 0 ≤ u → u < v → v ≤ 200 → u < a → ¬ Over L u v) ∧ Below w.heap.size w wr) (fun x _ => 201 - (intOf x).toNat)
  case atStart => exact ⟨0, by omega, by omega, rfl, Lib.hid fun u v h1 h2 h3 h4 => absurd h4 (by omega), hB1⟩
  case round =>
    obtain ⟨a, a0, a1, rfl, HA, hB⟩ := hrel
    by_cases hlt : a < 201
    · have hd1 : decide (a < 201) = true := by simp [hlt]
      go_wp2_with fail
      obtain ⟨wo, rfl⟩ : ∃ wo : World, wo = wr := ⟨_, rfl⟩
      have hszo := hB.size
      go_loopw [24] (fun x wx => ∃ k : Nat, k ≤ n ∧ x = .int .i64 k ∧ Hid (wx.rowIs wo.heap.size 125 201 (fun d => .int .i64 (dueL (L.take k) a d))) ∧ Below wo.heap.size wo wx) (fun x _ => n - (intOf x).toNat)
      case atStart => exact ⟨0, by omega, rfl, Lib.hid (by rw [zeroArr]; exact (rowIs_made_at _ _ _ _ rfl).congr fun i hi => by simp [dueL]), by go_grown⟩
      case round =>
        obtain ⟨k, hk, rfl, HC, hB2⟩ := hrel
        by_cases hkn : k < n
        · obtain ⟨b, off, rfl, hb, hat⟩ := HL.out (by have := HN.out; omega)
          obtain ⟨⟨c, m, g⟩, hx⟩ : ∃ x, L[k]? = some x := ⟨_, List.getElem?_eq_getElem (by have := HN.out; omega)⟩
          have hbo : b < wo.heap.size := by omega
          obtain ⟨q0, q1, q2⟩ := (hat.below hB hb).below hB2 hbo k c m g hx
          have hHs := HC.out.lt
          have hbr : b < wr.heap.size := by omega
          obtain ⟨o1, o2, o3, o4, o5, o6⟩ := taskB_yes (tasksB_at HTB.out hx)
          obtain ⟨mm, rfl⟩ := Int.eq_ofNat_of_zero_le o2
          have HX := Lib.hid hx
          clear hat hx
          by_cases ha : a ≤ c
          · have had : decide (a ≤ c) = true := by simp [ha]
            have hmm : mm < 201 := by omega
            have c0 := HC.out.cell hmm
            have c1 := HC.out.frozen mm
            have hbd := dueL_bd (tasksB_take HTB.out k) a mm
            have hlen : (L.take k).length ≤ 20 := by have := HN.out; simp; omega
            obtain ⟨bd1, bd2⟩ : 0 ≤ dueL (L.take k) a mm ∧ dueL (L.take k) a mm ≤ 4000 := by omega
            have HN2 := Lib.hid (show ∀ d : Nat, d < 201 → dueL (L.take (k + 1)) a d = if d = mm then dueL (L.take k) a mm + g else dueL (L.take k) a d from fun d hd => by
              rw [dueL_take HX.out]
              by_cases e : d = mm
              · subst e; rw [if_pos ⟨ha, rfl⟩, if_pos rfl]
              · rw [if_neg (by omega), if_neg e]; omega)
            clear hbd hlen
            obtain ⟨z, hz⟩ : ∃ z, z = dueL (L.take k) a mm := ⟨_, rfl⟩
            rw [← hz] at c0 bd1 bd2
            have HZ := Lib.hid hz
            clear hz
            go_wp2_with fail
            go_region
            all_goals
              go_wp2_with fail
              go_roundw
              case rel =>
                refine ⟨k + 1, by omega, rfl, Lib.hid ?_, by go_grown⟩
                refine (((HC.out.set mm _).alloc _).drew).congr fun i hi => ?_
                rw [HN2.out i hi]
                by_cases e : i = mm
                · rw [if_pos e, if_pos e, HZ.out]
                · rw [if_neg e, if_neg e]
              case measure => simp [intOf]; omega
          · have had : decide (a ≤ c) = false := by simp; omega
            have HC2 : Hid (wr.rowIs wo.heap.size 125 201 (fun d => .int .i64 (dueL (L.take (k + 1)) a d))) := Lib.hid (HC.out.congr fun i hi => by rw [dueL_take HX.out, if_neg (fun h => ha h.1)]; simp)
            go_wp2_with fail
            go_roundw
            case rel => exact ⟨k + 1, by omega, rfl, Lib.hid (HC2.out.alloc _), by go_grown⟩
            case measure => simp [intOf]; omega
        · have HC2 : Hid (wr.rowIs wo.heap.size 125 201 (fun d => .int .i64 (dueL L a d))) := Lib.hid (by
            have := HC.out
            rwa [List.take_of_length_le (by have := HN.out; omega)] at this)
          obtain ⟨cs, hcs, hsz, hcc⟩ := HC2.out
          have HCC := Lib.hid hcc
          have HCS := Lib.hid hcs
          have HSZ := Lib.hid hsz
          clear hcc hcs hsz
          have HSZ2 : Hid ((Try.prog.info? 125).map (·.size) = some cs.size) := Lib.hid (by rw [HSZ.out]; exact arrSize)
          go_wp2_with ((refine wpList_load_row (by rfl) 125 (.tmp 8) (by rfl) wo.heap.size (by rfl) 125 cs (0, 0) (.array 201 3) HCS.out Try.underlying125 (by rfl) HSZ2.out ?_))
          go_loop [11, 42] (fun v x => ∃ b : Nat, b ≤ 201 ∧ x = .int .i64 b ∧ v = .int .i64 (needL L a ((b : Int) - 1)) ∧ Hid (∀ u v, 0 ≤ u → u < v → v ≤ 200 → (u < a ∨ (u = a ∧ v < (b : Int))) → ¬ Over L u v)) (fun _ x => 201 - (intOf x).toNat)
          case atStart => exact ⟨0, by omega, rfl, by rw [needL_neg HTB.out]; omega, Lib.hid fun u v h1 h2 h3 h4 => HA.out u v h1 h2 h3 (by omega)⟩
          case round =>
            obtain ⟨b, hb, rfl, rfl, HBB⟩ := hrel
            by_cases hb2 : b < 201
            · have hidx := run_index_arr (P := Try.prog) Try.underlying125 hb2 (HCC.out b hb2) Try.sizeOf3 Try.isAgg3
              have hdb : decide ((b : Int) < 201) = true := by simp; omega
              have HST := Lib.hid (needL_step L a b)
              have HST2 := Lib.hid (show needL L a (((b + 1 : Nat) : Int) - 1) = needL L a b from by rw [show (((b + 1 : Nat) : Int) - 1) = (b : Int) from by omega])
              have hbd1 := dueL_bd HTB.out a b
              have hbd2 := needL_bd HTB.out a ((b : Int) - 1)
              have hlen : L.length ≤ 20 := by have := HN.out; omega
              obtain ⟨z, hz⟩ : ∃ z, z = dueL L a b := ⟨_, rfl⟩
              obtain ⟨y, hy⟩ : ∃ y, y = needL L a ((b : Int) - 1) := ⟨_, rfl⟩
              rw [← hz] at hidx hbd1
              rw [← hy] at hbd2
              rw [← hy]
              obtain ⟨z0, z1⟩ : 0 ≤ z ∧ z ≤ 4000 := by omega
              obtain ⟨y0, y1⟩ : 0 ≤ y ∧ y ≤ 4000 := by omega
              have HZY := Lib.hid (show needL L a b = y + z from by rw [HST.out, hz, hy])
              clear hbd1 hbd2 hlen hz hy HST
              have HNEXT := Lib.hid (show ¬ (a < (b : Int) ∧ (b : Int) - a < y + z) → ∀ u v, 0 ≤ u → u < v → v ≤ 200 → (u < a ∨ (u = a ∧ v < ((b + 1 : Nat) : Int))) → ¬ Over L u v from fun hc u v h1 h2 h3 h4 => by
                by_cases e : u = a ∧ v = (b : Int)
                · obtain ⟨rfl, rfl⟩ := e
                  unfold Over
                  rw [HZY.out]
                  omega
                · exact HBB.out u v h1 h2 h3 (by omega))
              by_cases hab : a < (b : Int)
              · have habd : decide (a < (b : Int)) = true := by simp [hab]
                by_cases hov : (b : Int) - a < y + z
                · have hovd : decide ((b : Int) - a < y + z) = true := by simp [hov]
                  have HV := Lib.hid (HT.out.found a0 hab (by omega) (by unfold Over; rw [HZY.out]; exact hov) HBB.out)
                  go_wp2_with fail
                  exact bodyPost_ret (v := .tuple #[.int .i64 a, .int .i64 b, .bool true, .int .i64 0]) (by simp [results, Try.results42, go_sem]) rfl ⟨by rw [HV.out.1, HV.out.2.1, HV.out.2.2], hB.trans (hB2.mono hszo)⟩
                · have hovd : decide ((b : Int) - a < y + z) = false := by simp; omega
                  have HNX := Lib.hid (HNEXT.out (by omega))
                  go_wp2_with fail
                  go_round
                  case rel => exact ⟨b + 1, by omega, rfl, by rw [HST2.out, HZY.out], HNX⟩
                  case measure => simp [intOf]; omega
              · have habd : decide (a < (b : Int)) = false := by simp; omega
                have HNX := Lib.hid (HNEXT.out (by omega))
                go_wp2_with fail
                go_round
                case rel => exact ⟨b + 1, by omega, rfl, by rw [HST2.out, HZY.out], HNX⟩
                case measure => simp [intOf]; omega
            · obtain rfl : b = 201 := by omega
              have HA2 := Lib.hid (show ∀ u v, 0 ≤ u → u < v → v ≤ 200 → u < a + 1 → ¬ Over L u v from fun u v h1 h2 h3 h4 => HBB.out u v h1 h2 h3 (by omega))
              have hB3 := hB.trans (hB2.mono hszo)
              go_wp2_with fail
              go_roundw
              case rel => exact ⟨a + 1, by omega, by omega, rfl, HA2, hB3⟩
              case measure => simp [intOf]; omega
    · have HV := Lib.hid (HT.out.none fun u v h1 h2 h3 => HA.out u v h1 h2 h3 (by omega))
      go_wp2_with fail
      exact bodyPost_ret (v := .tuple #[.int .i64 0, .int .i64 0, .bool false, .int .i64 0]) (by simp [results, Try.results42, go_sem]) rfl ⟨by obtain ⟨e1, e2, e3⟩ := HV.out; subst e1 e2 e3; rfl, hB⟩
end Go.Proofs.Ytdbipmidjdhjpaa
