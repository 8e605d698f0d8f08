/- Contract: between which times there is too much to do; the document's. -/
import Derived.Test.YtdbipmidjdhjpaaDueCheck
import Derived.OwnWalk
namespace Go.Proofs.Ytdbipmidjdhjpaa
open Go.ChangeShapes Go.WideShapes Go.ChangeAt Go.RowKit
set_option linter.unusedVariables false
/-- what a row of tasks has to do within a stretch -/
def needL : List (Int × Int × Int) → Int → Int → Int
  | [], _, _ => 0
  | (c, m, g) :: t, a, b => (if a ≤ c ∧ m ≤ b then g else 0) + needL t a b
theorem needL_append (X Y : List (Int × Int × Int)) (a b : Int) : needL (X ++ Y) a b = needL X a b + needL Y a b := by
  induction X with
  | nil => simp [needL]
  | cons x t ih => obtain ⟨c, m, g⟩ := x; simp only [List.cons_append, needL, ih]; omega
theorem needL_take {L : List (Int × Int × Int)} {j : Nat} {c m g : Int} (h : L[j]? = some (c, m, g)) (a b : Int) : needL (L.take (j + 1)) a b = needL (L.take j) a b + (if a ≤ c ∧ m ≤ b then g else 0) := by
  rw [List.take_add_one, h, needL_append]
  simp [needL]
theorem needL_bd {L : List (Int × Int × Int)} (h : tasksB L = true) (a b : Int) : 0 ≤ needL L a b ∧ needL L a b ≤ 200 * L.length := by
  induction L with
  | nil => simp [needL]
  | cons x t ih =>
    obtain ⟨c, m, g⟩ := x
    simp only [tasksB, List.all_cons, Bool.and_eq_true] at h
    have h1 := taskB_yes h.1
    have h2 := ih (by simpa [tasksB] using h.2)
    simp only [needL, List.length_cons]
    split <;> omega
theorem tasksB_take {L : List (Int × Int × Int)} (h : tasksB L = true) (j : Nat) : tasksB (L.take j) = true := List.all_eq_true.2 fun x hx => List.all_eq_true.1 h x (List.mem_of_mem_take hx)
def Over (L : List (Int × Int × Int)) (a b : Int) : Prop := b - a < needL L a b
/-- the first two times between which there is too much -/
def TightIs (L : List (Int × Int × Int)) (p q : Int) (is : Bool) : Prop :=
  (is = true ∧ 0 ≤ p ∧ p < q ∧ q ≤ 200 ∧ Over L p q ∧ ∀ a b, 0 ≤ a → a < b → b ≤ 200 → (a < p ∨ (a = p ∧ b < q)) → ¬ Over L a b) ∨ (is = false ∧ p = 0 ∧ q = 0 ∧ ∀ a b, 0 ≤ a → a < b → b ≤ 200 → ¬ Over L a b)
theorem TightIs.found {L : List (Int × Int × Int)} {p q u v : Int} {is : Bool} (h : TightIs L p q is) (h0 : 0 ≤ u) (h1 : u < v) (h2 : v ≤ 200) (h3 : Over L u v) (h4 : ∀ a b, 0 ≤ a → a < b → b ≤ 200 → (a < u ∨ (a = u ∧ b < v)) → ¬ Over L a b) : u = p ∧ v = q ∧ true = is := by
  rcases h with ⟨rfl, a0, a1, a2, a3, a4⟩ | ⟨rfl, rfl, rfl, a⟩
  · have e1 : ¬ (u < p ∨ (u = p ∧ v < q)) := fun h => a4 u v h0 h1 h2 h h3
    have e2 : ¬ (p < u ∨ (p = u ∧ q < v)) := fun h => h4 p q a0 a1 a2 h a3
    exact ⟨by omega, by omega, rfl⟩
  · exact absurd h3 (a u v h0 h1 h2)
theorem TightIs.none {L : List (Int × Int × Int)} {p q : Int} {is : Bool} (h : TightIs L p q is) (h1 : ∀ a b, 0 ≤ a → a < b → b ≤ 200 → ¬ Over L a b) : 0 = p ∧ 0 = q ∧ false = is := by
  rcases h with ⟨rfl, a0, a1, a2, a3, a4⟩ | ⟨rfl, rfl, rfl, a⟩
  · exact absurd a3 (h1 p q a0 a1 a2)
  · exact ⟨rfl, rfl, rfl⟩
theorem ret_iib {a b a' b' : Int} {c c' : Bool} (h1 : a = a') (h2 : b = b') (h3 : c = c') : Ending.returned (.tuple #[.int .i64 a, .int .i64 b, .bool c]) = .returned (.tuple #[.int .i64 a', .int .i64 b', .bool c']) := by rw [h1, h2, h3]
set_option maxHeartbeats 4000000 in
theorem tightOf_any (L : List (Int × Int × Int)) (p q : Int) (is : Bool) (s : Option Addr) (n cap : Nat) (w : World) (hn : n = L.length) (hmax : n ≤ 20) (hL : Needs w s L) (hB : tasksB L = true) (hT : TightIs L p q is) :
    Calls Try.prog 48 #[.slice s n cap] w fun e w' => e = .returned (.tuple #[.int .i64 p, .int .i64 q, .bool is]) ∧ Below w.heap.size w w' := by
  have HL := Lib.hid hL
  have HN := Lib.hid hn
  have HB := Lib.hid hB
  have HT := Lib.hid hT
  clear hL hn hB hT
  go_enter Try.func48, Try.ntmps48
  go_wp2_with fail
  go_loopw [10] (fun x wr => ∃ a : Int, 0 ≤ a ∧ a ≤ 201 ∧ x = .int .i64 a ∧ Hid (∀ u v, 0 ≤ u → u < v → v ≤ 200 → u < a → ¬ Over L u v) ∧ Below w.heap.size w wr) (fun x _ => 201 - (intOf x).toNat)
  case atStart => exact ⟨0, by omega, by omega, rfl, Lib.hid fun u v h1 h2 h3 h4 => absurd h4 (by omega), Below.refl _ _⟩
  case round =>
    obtain ⟨a, a0, a1, rfl, HA, hB⟩ := hrel
    by_cases hlt : a < 201
    · have hd1 : decide (a < 201) = true := by simp [hlt]
      go_wp2_with fail
      go_loopw [6] (fun x wx => ∃ b : Int, a < b ∧ b ≤ 201 + 1 ∧ x = .int .i64 b ∧ Hid (∀ u v, 0 ≤ u → u < v → v ≤ 200 → (u < a ∨ (u = a ∧ v < b)) → ¬ Over L u v) ∧ Below w.heap.size w wx) (fun x _ => 202 - (intOf x).toNat)
      case atStart => exact ⟨a + 1, by omega, by omega, rfl, Lib.hid fun u v h1 h2 h3 h4 => HA.out u v h1 h2 h3 (by omega), hB⟩
      case round =>
        obtain ⟨b, b0, b1, rfl, HBB, hB⟩ := hrel
        by_cases hb : b ≤ 200
        · have hd2 : decide (b ≤ 200) = true := by simp [hb]
          go_wp2_with fail
          go_loopw [7, 21] (fun v x wy => ∃ j : Nat, j ≤ n ∧ x = .int .i64 j ∧ v = .int .i64 (needL (L.take j) a b) ∧ Below w.heap.size w wy) (fun _ x _ => n - (intOf x).toNat)
          case atStart => exact ⟨0, by omega, rfl, by simp [needL], hB⟩
          case round =>
            obtain ⟨j, hj, rfl, rfl, hB⟩ := hrel
            have hbd := needL_bd (tasksB_take HB.out j) a b
            have hlen : (L.take j).length ≤ 20 := by have := HN.out; simp; omega
            obtain ⟨bd1, bd2⟩ : 0 ≤ needL (L.take j) a b ∧ needL (L.take j) a b ≤ 4000 := by omega
            clear hbd hlen
            by_cases hjn : j < n
            · obtain ⟨b0', off, rfl, hb0, hat⟩ := HL.out (by have := HN.out; omega)
              obtain ⟨⟨c, m, g⟩, hx⟩ : ∃ x, L[j]? = some x := ⟨_, List.getElem?_eq_getElem (by have := HN.out; omega)⟩
              obtain ⟨q0, q1, q2⟩ := hat.below hB hb0 j c m g hx
              have HTK := Lib.hid (needL_take hx a b)
              obtain ⟨r1, r2, r3, r4, r5, r6⟩ := taskB_yes (tasksB_at HB.out hx)
              have hbr : b0' < wr.heap.size := Nat.lt_of_lt_of_le hb0 hB.size
              have hsz := hB.size
              clear hat hx
              by_cases k1 : a ≤ c
              · by_cases k2 : m ≤ b
                · have HTV := Lib.hid (show needL (L.take (j + 1)) a b = needL (L.take j) a b + g from by rw [HTK.out, if_pos ⟨k1, k2⟩])
                  generalize needL (L.take j) a b = N at *
                  go_wp2_with fail
                  go_roundw
                  case rel => exact ⟨j + 1, by omega, rfl, by rw [HTV.out], by go_grown⟩
                  case measure => simp [intOf]; omega
                · have HTV := Lib.hid (show needL (L.take (j + 1)) a b = needL (L.take j) a b from by rw [HTK.out, if_neg (fun h => k2 h.2)]; omega)
                  generalize needL (L.take j) a b = N at *
                  go_wp2_with fail
                  go_roundw
                  case rel => exact ⟨j + 1, by omega, rfl, by rw [HTV.out], by go_grown⟩
                  case measure => simp [intOf]; omega
              · have HTV := Lib.hid (show needL (L.take (j + 1)) a b = needL (L.take j) a b from by rw [HTK.out, if_neg (fun h => k1 h.1)]; omega)
                generalize needL (L.take j) a b = N at *
                go_wp2_with fail
                go_roundw
                case rel => exact ⟨j + 1, by omega, rfl, by rw [HTV.out], by go_grown⟩
                case measure => simp [intOf]; omega
            · have HF := Lib.hid (show needL (L.take j) a b = needL L a b from by rw [List.take_of_length_le (by have := HN.out; omega)])
              by_cases ho : b - a < needL (L.take j) a b
              · have HV := Lib.hid (HT.out.found a0 b0 hb (by rw [HF.out] at ho; exact ho) HBB.out)
                generalize needL (L.take j) a b = N at *
                go_wp2_with fail
                go_ret3
                exact ⟨ret_iib HV.out.1 HV.out.2.1 HV.out.2.2, hB⟩
              · have HB2 := Lib.hid (show ∀ u v, 0 ≤ u → u < v → v ≤ 200 → (u < a ∨ (u = a ∧ v < b + 1)) → ¬ Over L u v from fun u v h1 h2 h3 h4 => by
                  by_cases e : u = a ∧ v = b
                  · rw [e.1, e.2]
                    rw [HF.out] at ho
                    exact ho
                  · exact HBB.out u v h1 h2 h3 (by omega))
                generalize needL (L.take j) a b = N at *
                go_wp2_with fail
                go_roundw
                case rel => exact ⟨b + 1, by omega, by omega, rfl, HB2, hB⟩
                case measure => simp [intOf]; omega
        · have HA2 := Lib.hid (show ∀ u v, 0 ≤ u → u < v → v ≤ 200 → u < a + 1 → ¬ Over L u v from fun u v h1 h2 h3 h4 => HBB.out u v h1 h2 h3 (by omega))
          go_wp2_with fail
          go_roundw
          case rel => exact ⟨a + 1, by omega, by omega, rfl, HA2, hB⟩
          case measure => simp [intOf]; omega
    · have HV := Lib.hid (HT.out.none fun u v h1 h2 h3 => HA.out u v h1 h2 h3 (by omega))
      go_wp2_with fail
      go_ret3
      exact ⟨ret_iib HV.out.1 HV.out.2.1 HV.out.2.2, hB⟩
end Go.Proofs.Ytdbipmidjdhjpaa
