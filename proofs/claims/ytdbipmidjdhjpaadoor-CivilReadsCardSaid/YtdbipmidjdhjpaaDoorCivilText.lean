/- Contracts: digits; the text of a day; the program's and the document's. -/
import Derived.Test.YtdbipmidjdhjpaaDoorCivilAdd
import Derived.Laws.Strings2
import Derived.WalkSpells
namespace Go.Proofs.YtdbipmidjdhjpaaDoor
open Go.ChangeShapes Go.WideShapes Go.ChangeAt Go.RowKit Civ
set_option linter.unusedVariables false
/-- a digit, as text -/
def bd (d : Int) : ByteArray := ⟨#[(48 + d).toNat.toUInt8]⟩
theorem bd_size (d : Int) : (bd d).size = 1 := rfl
theorem ten {d : Int} (h1 : 0 ≤ d) (h2 : d < 10) : d = 0 ∨ d = 1 ∨ d = 2 ∨ d = 3 ∨ d = 4 ∨ d = 5 ∨ d = 6 ∨ d = 7 ∨ d = 8 ∨ d = 9 := by omega
theorem enc_digit {d : Int} (h1 : 0 ≤ d) (h2 : d < 10) : Utf8.encode (48 + d) = bd d := by
  rcases ten h1 h2 with rfl | rfl | rfl | rfl | rfl | rfl | rfl | rfl | rfl | rfl <;> rfl
theorem ten_size : (⟨#[48, 49, 50, 51, 52, 53, 54, 55, 56, 57]⟩ : ByteArray).size = 10 := rfl
theorem cut_digit {d : Int} (h1 : 0 ≤ d) (h2 : d < 10) : (⟨#[48, 49, 50, 51, 52, 53, 54, 55, 56, 57]⟩ : ByteArray).extract d.toNat (d + 1).toNat = bd d := by
  rcases ten h1 h2 with rfl | rfl | rfl | rfl | rfl | rfl | rfl | rfl | rfl | rfl <;> rfl
/-- what is left of a number behind its lowest j digits -/
def lft (n : Int) : Nat → Int
  | 0 => n
  | j + 1 => lft n j / 10
/-- its lowest j digits -/
def low (n : Int) : Nat → ByteArray
  | 0 => ⟨#[]⟩
  | j + 1 => bd (lft n j % 10) ++ low n j
theorem low_size (n : Int) (j : Nat) : (low n j).size = j := by
  induction j with
  | zero => rfl
  | succ j ih => simp only [low, ByteArray.size_append, ih, bd_size]; omega
theorem lft_bd {n : Int} (h : 0 ≤ n) (j : Nat) : 0 ≤ lft n j ∧ lft n j ≤ n := by
  induction j with
  | zero => exact ⟨h, Int.le_refl _⟩
  | succ j ih => simp only [lft]; omega
theorem digits_any (n : Int) (k : Nat) (w : World) (h1 : 0 ≤ n) (h2 : n ≤ 1000000000000000000) (hk : k ≤ 30) : Calls Tryd.prog 46 #[.int .i64 n, .int .i64 k] w fun e w' => e = .returned (.string (low n k)) ∧ w = w' := by
  go_enter Tryd.func46, Tryd.ntmps46
  go_wp2
  go_loop [0, 5, 7] (fun a s i => ∃ j : Nat, j ≤ k ∧ a = .int .i64 (lft n j) ∧ s = .string (low n j) ∧ i = .int .i64 j) (fun _ _ i => k - (intOf i).toNat)
  case atStart => exact ⟨0, by omega, rfl, rfl, rfl⟩
  case round =>
    obtain ⟨j, hj, rfl, rfl, rfl⟩ := hrel
    obtain ⟨b1, b2⟩ := lft_bd h1 j
    by_cases hlt : j < k
    · have he := enc_digit (d := lft n j % 10) (by omega) (by omega)
      have hs := bd_size (lft n j % 10)
      have hl := low_size n j
      have e0 : (0 : Int) ≤ lft n j % 10 := by omega
      have e9 : lft n j % 10 ≤ 9 := by omega
      go_wp2
      go_round
      case rel => exact ⟨j + 1, by omega, rfl, rfl, rfl⟩
      case measure => simp [intOf]; omega
    · obtain rfl : j = k := by omega
      go_wp2
      go_ret
      exact ⟨rfl, rfl⟩
theorem digitsR_any (n : Int) (k : Nat) (w : World) (h1 : 0 ≤ n) (h2 : n ≤ 1000000000000000000) (hk : k ≤ 30) (hz : lft n k = 0) : Calls Tryd.prog 47 #[.int .i64 n, .int .i64 k] w fun e w' => e = .returned (.string (low n k)) ∧ w = w' := by
  have HZ := Lib.hid hz
  clear hz
  go_enter Tryd.func47, Tryd.ntmps47
  go_wp2
  go_loop [0, 5] (fun a s => ∃ j : Nat, j ≤ k ∧ a = .int .i64 (lft n j) ∧ s = .string (low n j)) (fun _ s => k - (match s with | .string b => b.size | _ => 0))
  case atStart => exact ⟨0, by omega, rfl, rfl⟩
  case round =>
    obtain ⟨j, hj, rfl, rfl⟩ := hrel
    obtain ⟨b1, b2⟩ := lft_bd h1 j
    by_cases hlt : j < k
    · have he := cut_digit (d := lft n j % 10) (by omega) (by omega)
      have hs := bd_size (lft n j % 10)
      have hl := low_size n j
      have hq := ten_size
      have e0 : (0 : Int) ≤ lft n j % 10 := by omega
      have e9 : lft n j % 10 + 1 ≤ 10 := by omega
      go_wp2
      all_goals
        go_round
        case rel => exact ⟨j + 1, by omega, rfl, rfl⟩
        case measure => simp [low_size]; omega
    · obtain rfl : j = k := by omega
      have hz := HZ.out
      have hl := low_size n j
      go_wp2
      go_ret
      exact ⟨rfl, rfl⟩

theorem ret_si {k : IntKind} {a b : ByteArray} {c d : Int} (h : a = b) (g : c = d) : Ending.returned (.tuple #[.string a, .int k c]) = .returned (.tuple #[.string b, .int k d]) := by rw [h, g]
theorem lft_two {n : Int} (h1 : 0 ≤ n) (h2 : n ≤ 99) : lft n 2 = 0 := by simp only [lft]; omega
theorem lft_four {n : Int} (h1 : 0 ≤ n) (h2 : n ≤ 9999) : lft n 4 = 0 := by simp only [lft]; omega
/-- the lowest digits, so many as an integer says -/
def lowI (n K : Int) : ByteArray := low n K.toNat
theorem lowI_size2 (n : Int) : (lowI n 2).size = 2 := low_size n 2
theorem lowI_size4 (n : Int) : (lowI n 4).size = 4 := low_size n 4
theorem digitsI (n K : Int) (w : World) (h1 : 0 ≤ n) (h2 : (K = 2 ∧ n ≤ 99) ∨ (K = 4 ∧ n ≤ 9999)) : Calls Tryd.prog 46 #[.int .i64 n, .int .i64 K] w fun e w' => e = .returned (.string (lowI n K)) ∧ w = w' := by
  rcases h2 with ⟨rfl, h2⟩ | ⟨rfl, h2⟩
  · exact digits_any n 2 w h1 (by omega) (by omega)
  · exact digits_any n 4 w h1 (by omega) (by omega)
theorem digitsRI (n K : Int) (w : World) (h1 : 0 ≤ n) (h2 : (K = 2 ∧ n ≤ 99) ∨ (K = 4 ∧ n ≤ 9999)) : Calls Tryd.prog 47 #[.int .i64 n, .int .i64 K] w fun e w' => e = .returned (.string (lowI n K)) ∧ w = w' := by
  rcases h2 with ⟨rfl, h2⟩ | ⟨rfl, h2⟩
  · exact digitsR_any n 2 w h1 (by omega) (by omega) (lft_two h1 h2)
  · exact digitsR_any n 4 w h1 (by omega) (by omega) (lft_four h1 h2)
def textV (y m d : Int) : ByteArray := lowI y 4 ++ ⟨#[45]⟩ ++ lowI m 2 ++ ⟨#[45]⟩ ++ lowI d 2
def textS (y m d e : Int) : ByteArray := if e = 0 then textV y m d else ⟨#[]⟩
theorem dash_size : (⟨#[45]⟩ : ByteArray).size = 1 := rfl
set_option maxHeartbeats 400000 in
theorem Text_any (n y m d e : Int) (w : World) (hT : Tab w) (h : DateIs n y m d e) :
    Calls Tryd.prog 18 #[.int .i64 n] w fun x w' => x = .returned (.tuple #[.string (textS y m d e), .int .i64 e]) ∧ Drawn w w' := by
  have HT := Lib.hid hT
  have HD := Lib.hid h
  by_cases he : e = 0
  · obtain ⟨hd, y9⟩ := dateIs_good h he
    have y1 := hd.1
    have m1 := hd.2.1
    have m2 := hd.2.2.1
    have d1 := hd.2.2.2.1
    have d2 : d ≤ 31 := by have := hd.2.2.2.2.1; have := len_bd y m; omega
    have HS := Lib.hid (show textV y m d = textS y m d e from by simp [textS, he])
    clear hd h hT
    subst he
    have s1 := lowI_size4 y
    have s2 := lowI_size2 m
    have s3 := lowI_size2 d
    have s4 := dash_size
    go_enter Tryd.func18, Tryd.ntmps18
    go_wp2_with (first
      | (go_at_call 10; refine Calls.mono (Date_any _ _ _ _ _ _ HT.out HD.out) ?_; rintro x w' ⟨rfl, p3, rfl⟩)
      | (go_at_call 46; refine Calls.mono (digitsI _ _ _ (by omega) (by omega)) ?_; rintro x w' ⟨rfl, rfl⟩))
    go_ret2
    exact ⟨ret_si HS.out rfl, Drawn.drewN _ _⟩
  · have HS := Lib.hid (show ByteArray.mk #[] = textS y m d e from by simp [textS, he])
    clear h hT
    go_enter Tryd.func18, Tryd.ntmps18
    go_wp2_with (go_at_call 10; refine Calls.mono (Date_any _ _ _ _ _ _ HT.out HD.out) ?_; rintro x w' ⟨rfl, p3, rfl⟩)
    go_ret2
    exact ⟨ret_si HS.out rfl, Drawn.drewN _ _⟩
set_option maxHeartbeats 400000 in
theorem dateText_any (n y m d e : Int) (w : World) (h : DateIs n y m d e) :
    Calls Tryd.prog 19 #[.int .i64 n] w fun x w' => x = .returned (.tuple #[.string (textS y m d e), .int .i64 e]) ∧ w = w' := by
  have HD := Lib.hid h
  by_cases he : e = 0
  · obtain ⟨hd, y9⟩ := dateIs_good h he
    have y1 := hd.1
    have m1 := hd.2.1
    have m2 := hd.2.2.1
    have d1 := hd.2.2.2.1
    have d2 : d ≤ 31 := by have := hd.2.2.2.2.1; have := len_bd y m; omega
    have HS := Lib.hid (show textV y m d = textS y m d e from by simp [textS, he])
    clear hd h
    subst he
    have s1 := lowI_size4 y
    have s2 := lowI_size2 m
    have s3 := lowI_size2 d
    have s4 := dash_size
    go_enter Tryd.func19, Tryd.ntmps19
    go_wp2_with (first
      | (go_at_call 13; refine Calls.mono (dateOf_any _ _ _ _ _ _ HD.out) ?_; rintro x w' ⟨rfl, rfl⟩)
      | (go_at_call 47; refine Calls.mono (digitsRI _ _ _ (by omega) (by omega)) ?_; rintro x w' ⟨rfl, rfl⟩))
    go_ret2
    exact ⟨ret_si HS.out rfl, rfl⟩
  · have HS := Lib.hid (show ByteArray.mk #[] = textS y m d e from by simp [textS, he])
    clear h
    go_enter Tryd.func19, Tryd.ntmps19
    go_wp2_with (go_at_call 13; refine Calls.mono (dateOf_any _ _ _ _ _ _ HD.out) ?_; rintro x w' ⟨rfl, rfl⟩)
    go_ret2
    exact ⟨ret_si HS.out rfl, rfl⟩
end Go.Proofs.YtdbipmidjdhjpaaDoor
