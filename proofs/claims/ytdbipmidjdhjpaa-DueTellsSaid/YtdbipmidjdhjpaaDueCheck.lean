/- Contracts: are tasks right? The program's and the document's. -/
import Derived.Test.YtdbipmidjdhjpaaNeedOps
namespace Go.Proofs.Ytdbipmidjdhjpaa
open Go.ChangeShapes Go.WideShapes Go.ChangeAt Go.RowKit
set_option linter.unusedVariables false
/-- is a task right: from when, till when, how long -/
def taskB (a d n : Int) : Bool := decide (0 ≤ a ∧ 0 ≤ d ∧ d ≤ 200 ∧ 1 ≤ n ∧ n ≤ 200 ∧ a + n ≤ d)
theorem taskB_yes {a d n : Int} (h : taskB a d n = true) : 0 ≤ a ∧ 0 ≤ d ∧ d ≤ 200 ∧ 1 ≤ n ∧ n ≤ 200 ∧ a + n ≤ d := by simpa [taskB] using h
theorem taskB_no {a d n : Int} (h : taskB a d n = false) : ¬ (0 ≤ a ∧ 0 ≤ d ∧ d ≤ 200 ∧ 1 ≤ n ∧ n ≤ 200 ∧ a + n ≤ d) := by simpa [taskB] using h
def tasksB (L : List (Int × Int × Int)) : Bool := L.all fun x => taskB x.1 x.2.1 x.2.2
def tasksE (L : List (Int × Int × Int)) : Int := if 20 < L.length then 2 else if tasksB L then 0 else 4
def GoodT (L : List (Int × Int × Int)) (j : Nat) : Prop := ∀ i a d n, i < j → L[i]? = some (a, d, n) → taskB a d n = true
theorem GoodT.zero (L : List (Int × Int × Int)) : GoodT L 0 := fun i c m g h _ => absurd h (by omega)
theorem GoodT.succ {L : List (Int × Int × Int)} {j : Nat} {c m g : Int} (h : GoodT L j) (hi : L[j]? = some (c, m, g)) (hb : taskB c m g = true) : GoodT L (j + 1) := fun i c' m' g' h1 h2 => by
  by_cases e : i = j
  · subst e; rw [hi] at h2; cases h2; exact hb
  · exact h i c' m' g' (by omega) h2
theorem tasksB_at {L : List (Int × Int × Int)} (h : tasksB L = true) {i : Nat} {c m g : Int} (hi : L[i]? = some (c, m, g)) : taskB c m g = true := List.all_eq_true.1 h (c, m, g) (List.mem_of_getElem? hi)
theorem GoodT.all {L : List (Int × Int × Int)} (h : GoodT L L.length) (hl : L.length ≤ 20) : tasksE L = 0 := by
  have : tasksB L = true := List.all_eq_true.2 fun x hx => by
    obtain ⟨i, hi, rfl⟩ := List.getElem_of_mem hx
    exact h i _ _ _ hi (List.getElem?_eq_getElem hi)
  simp [tasksE, this]; omega
theorem tasks_bad {L : List (Int × Int × Int)} {i : Nat} {c m g : Int} (hl : L.length ≤ 20) (hi : L[i]? = some (c, m, g)) (h : taskB c m g = false) : tasksE L = 4 := by
  have : tasksB L = false := by
    cases hL : tasksB L with
    | false => rfl
    | true => rw [tasksB_at hL hi] at h; cases h
  simp [tasksE, this]; omega
theorem tasks_long {L : List (Int × Int × Int)} (h : 20 < L.length) : tasksE L = 2 := by simp [tasksE, h]
set_option maxHeartbeats 2000000 in
theorem dCheck_any (L : List (Int × Int × Int)) (a : Option Addr) (n cap : Nat) (w : World) (hn : n = L.length) (hmax : n ≤ 9223372036854775807) (hL : Needs w a L) :
    Calls Try.prog 44 #[.slice a n cap] w fun e w' => e = .returned (.int .i64 (tasksE L)) ∧ Below w.heap.size w w' := by
  have HL := Lib.hid hL
  have HN := Lib.hid hn
  clear hL hn
  by_cases h20 : 20 < n
  · have HV := Lib.hid (tasks_long (L := L) (by have := HN.out; omega)).symm
    go_enter Try.func44, Try.ntmps44
    go_wp2_with fail
    go_ret
    exact ⟨ret_int HV.out, by go_grown⟩
  have h20' : n ≤ 20 := by omega
  clear h20
  go_enter Try.func44, Try.ntmps44
  go_wp2_with fail
  go_loopw [10] (fun i wr => ∃ j : Nat, j ≤ n ∧ i = .int .i64 j ∧ Hid (GoodT L j) ∧ Below w.heap.size w wr) (fun i _ => n - (intOf i).toNat)
  case atStart => exact ⟨0, by omega, rfl, Lib.hid (GoodT.zero L), Below.refl _ _⟩
  case round =>
    obtain ⟨j, hj, rfl, HG, hB⟩ := hrel
    by_cases hlt : j < n
    · obtain ⟨b, off, rfl, hb, hat⟩ := HL.out (by have := HN.out; omega)
      obtain ⟨⟨c, m, g⟩, hx⟩ : ∃ x, L[j]? = some x := ⟨_, List.getElem?_eq_getElem (by have := HN.out; omega)⟩
      obtain ⟨q0, q1, q2⟩ := hat.below hB hb j c m g hx
      have HX := Lib.hid hx
      have hbr : b < wr.heap.size := Nat.lt_of_lt_of_le hb hB.size
      have hsz := hB.size
      clear hat hx
      cases hg : taskB c m g with
      | true =>
        have HI := Lib.hid (HG.out.succ HX.out hg)
        obtain ⟨r1, r2, r3, r4, r5, r6⟩ := taskB_yes hg
        have r7 : ¬ (m - g < c) := by omega
        clear hg
        go_wp2_with fail
        go_roundw
        case rel => exact ⟨j + 1, by omega, rfl, HI, by go_grown⟩
        case measure => simp [intOf]; omega
      | false =>
        have HI := Lib.hid (tasks_bad (by have := HN.out; omega) HX.out hg).symm
        have hcase : c < 0 ∨ (0 ≤ c ∧ m < 0) ∨ (0 ≤ c ∧ 0 ≤ m ∧ 200 < m) ∨ (0 ≤ c ∧ 0 ≤ m ∧ m ≤ 200 ∧ g < 1) ∨ (0 ≤ c ∧ 0 ≤ m ∧ m ≤ 200 ∧ 1 ≤ g ∧ 200 < g) ∨ (0 ≤ c ∧ 0 ≤ m ∧ m ≤ 200 ∧ 1 ≤ g ∧ g ≤ 200 ∧ m - g < c) := by
          have := taskB_no hg
          omega
        clear hg
        rcases hcase with p1 | ⟨p1, p2⟩ | ⟨p1, p2, p3⟩ | ⟨p1, p2, p3, p4⟩ | ⟨p1, p2, p3, p4, p5⟩ | ⟨p1, p2, p3, p4, p5, p6⟩
        all_goals
          go_wp2_with fail
          go_ret
          exact ⟨ret_int HI.out, by go_grown⟩
    · have HV := Lib.hid (show tasksE L = 0 from by
        have e : j = L.length := by have := HN.out; omega
        exact GoodT.all (e ▸ HG.out) (by have := HN.out; omega)).symm
      go_wp2_with fail
      go_ret
      exact ⟨ret_int HV.out, hB⟩
set_option maxHeartbeats 2000000 in
theorem tasksFault_any (L : List (Int × Int × Int)) (a : Option Addr) (n cap : Nat) (w : World) (hn : n = L.length) (hmax : n ≤ 9223372036854775807) (hL : Needs w a L) :
    Calls Try.prog 43 #[.slice a n cap] w fun e w' => e = .returned (.int .i64 (tasksE L)) ∧ Below w.heap.size w w' := by
  have HL := Lib.hid hL
  have HN := Lib.hid hn
  clear hL hn
  by_cases h20 : 20 < n
  · have HV := Lib.hid (tasks_long (L := L) (by have := HN.out; omega)).symm
    go_enter Try.func43, Try.ntmps43
    go_wp2_with fail
    go_ret
    exact ⟨ret_int HV.out, by go_grown⟩
  have h20' : n ≤ 20 := by omega
  clear h20
  go_enter Try.func43, Try.ntmps43
  go_wp2_with fail
  go_loopw [10] (fun i wr => ∃ j : Nat, j ≤ n ∧ i = .int .i64 j ∧ Hid (GoodT L j) ∧ Below w.heap.size w wr) (fun i _ => n - (intOf i).toNat)
  case atStart => exact ⟨0, by omega, rfl, Lib.hid (GoodT.zero L), Below.refl _ _⟩
  case round =>
    obtain ⟨j, hj, rfl, HG, hB⟩ := hrel
    by_cases hlt : j < n
    · obtain ⟨b, off, rfl, hb, hat⟩ := HL.out (by have := HN.out; omega)
      obtain ⟨⟨c, m, g⟩, hx⟩ : ∃ x, L[j]? = some x := ⟨_, List.getElem?_eq_getElem (by have := HN.out; omega)⟩
      obtain ⟨q0, q1, q2⟩ := hat.below hB hb j c m g hx
      have HX := Lib.hid hx
      have hbr : b < wr.heap.size := Nat.lt_of_lt_of_le hb hB.size
      have hsz := hB.size
      clear hat hx
      cases hg : taskB c m g with
      | true =>
        have HI := Lib.hid (HG.out.succ HX.out hg)
        obtain ⟨r1, r2, r3, r4, r5, r6⟩ := taskB_yes hg
        have r8 : c ≤ 200 := by omega
        clear hg
        go_wp2_with fail
        go_roundw
        case rel => exact ⟨j + 1, by omega, rfl, HI, by go_grown⟩
        case measure => simp [intOf]; omega
      | false =>
        have HI := Lib.hid (tasks_bad (by have := HN.out; omega) HX.out hg).symm
        have hcase : c < 0 ∨ (0 ≤ c ∧ 200 < c) ∨ (0 ≤ c ∧ c ≤ 200 ∧ m < 0) ∨ (0 ≤ c ∧ c ≤ 200 ∧ 0 ≤ m ∧ 200 < m) ∨ (0 ≤ c ∧ c ≤ 200 ∧ 0 ≤ m ∧ m ≤ 200 ∧ g < 1) ∨ (0 ≤ c ∧ c ≤ 200 ∧ 0 ≤ m ∧ m ≤ 200 ∧ 1 ≤ g ∧ 200 < g) ∨ (0 ≤ c ∧ c ≤ 200 ∧ 0 ≤ m ∧ m ≤ 200 ∧ 1 ≤ g ∧ g ≤ 200 ∧ m < c + g) := by
          have := taskB_no hg
          omega
        clear hg
        rcases hcase with p1 | ⟨p1, p2⟩ | ⟨p1, p2, p3⟩ | ⟨p1, p2, p3, p4⟩ | ⟨p1, p2, p3, p4, p5⟩ | ⟨p1, p2, p3, p4, p5, p6⟩ | ⟨p1, p2, p3, p4, p5, p6, p7⟩
        all_goals
          go_wp2_with fail
          go_ret
          exact ⟨ret_int HI.out, by go_grown⟩
    · have HV := Lib.hid (show tasksE L = 0 from by
        have e : j = L.length := by have := HN.out; omega
        exact GoodT.all (e ▸ HG.out) (by have := HN.out; omega)).symm
      go_wp2_with fail
      go_ret
      exact ⟨ret_int HV.out, hB⟩
end Go.Proofs.Ytdbipmidjdhjpaa
