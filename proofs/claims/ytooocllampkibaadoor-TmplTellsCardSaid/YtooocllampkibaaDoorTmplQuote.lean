/- Contract: a text quoted. -/
import Derived.Test.YtooocllampkibaaDoorTmplLab
import Derived.Test.YtooocllampkibaaDoorTmplDbl
import Derived.Test.YtooocllampkibaaDoorShelf
namespace Go.Proofs.YtooocllampkibaaDoor
open Go.ChangeShapes Go.WideShapes Go.ChangeAt Go.RowKit
set_option linter.unusedVariables false
open Tp
def quoV (s : ByteArray) : ByteArray := if 2000 < (dbl (lst s)).length then ⟨#[]⟩ else ⟨(dbl (lst s)).toArray⟩
def quoE (s : ByteArray) : Int := if 2000 < (dbl (lst s)).length then 2 else 0
theorem ret_si {k : IntKind} {a b : ByteArray} {c d : Int} (h : a = b) (g : c = d) : Ending.returned (.tuple #[.string a, .int k c]) = .returned (.tuple #[.string b, .int k d]) := by rw [h, g]
set_option maxRecDepth 20000 in
set_option maxHeartbeats 4000000 in
theorem Quote_any (s : ByteArray) (m : Int) (w : World) (hm : w.cell? ⟨0, 0, none⟩ = some (.int .i64 m)) (hs : s.size ≤ 2001) : Calls Tryd.prog 6 #[.string s] w fun e w' => e = .returned (.tuple #[.string (quoV s), .int .i64 (quoE s)]) ∧ Below w.heap.size w w' := by
  obtain ⟨n, hn⟩ : ∃ n, s.size = n := ⟨_, rfl⟩
  have HN := Lib.hid hn
  obtain ⟨q, hq⟩ : ∃ q, Lib.countByte s.data.toList 36 = q := ⟨_, rfl⟩
  have hqn : q ≤ n := by rw [← hq, ← hn]; exact List.count_le_length
  have HL : Hid ((dbl (lst s)).length = n + q) := Lib.hid (by rw [dbl_len, lst_len, hn, ← hq]; rfl)
  have HQ := Lib.hid hq
  have HM := Lib.hid hm
  rw [hn] at hs
  have q0 : (0 : Int) ≤ (n : Int) + (q : Int) := by omega
  have q1 : (n : Int) + (q : Int) ≤ 4002 := by omega
  by_cases hb : 2000 < n + q
  · have hb1 : 2000 < (n : Int) + (q : Int) := by omega
    have HV : Hid (quoV s = ⟨#[]⟩ ∧ quoE s = 2) := Lib.hid (by unfold quoV quoE; rw [if_pos (by rw [HL.out]; exact hb), if_pos (by rw [HL.out]; exact hb)]; exact ⟨rfl, rfl⟩)
    clear hb
    go_enter Tryd.func6, Tryd.ntmps6
    go_wp2_with (go_at_call 22; refine Calls.mono (Tryd.strings_Count_one s 36 _) ?_; rintro x w' ⟨rfl, rfl⟩; rw [HQ.out])
    go_ret2
    exact ⟨ret_si HV.out.1.symm HV.out.2.symm, Below.refl _ _⟩
  · have hb1 : ¬ 2000 < (n : Int) + (q : Int) := by omega
    have HV : Hid (quoV s = ⟨(Lib.replaceAll s.data.toList [36] [36, 36]).toArray⟩ ∧ quoE s = 0) := Lib.hid (by unfold quoV quoE; rw [if_neg (by rw [HL.out]; exact hb), if_neg (by rw [HL.out]; exact hb)]; exact ⟨by rw [← replace_dbl]; rfl, rfl⟩)
    have HC : Hid (s.size + Lib.countB s ⟨#[36]⟩ * (⟨#[36, 36]⟩ : ByteArray).size ≤ 140737488355328) := Lib.hid (by
      have e : Lib.countB s ⟨#[36]⟩ = q := by rw [← HQ.out]; exact Lib.count_one 36 _
      have e2 : (⟨#[36, 36]⟩ : ByteArray).size = 2 := rfl
      rw [e, e2, HN.out]; omega)
    have HS : Hid (s.size < 4294967281) := Lib.hid (by omega)
    clear hb hm
    go_enter Tryd.func6, Tryd.ntmps6
    go_wp2_with (first
      | (go_at_call 22; refine Calls.mono (Tryd.strings_Count_one s 36 _) ?_; rintro x w' ⟨rfl, rfl⟩; rw [HQ.out])
      | (go_at_call 23; refine Calls.mono (Tryd.strings_ReplaceAll s ⟨#[36]⟩ ⟨#[36, 36]⟩ m _ HS.out HM.out (by decide) HC.out) ?_; rintro x w2 ⟨rfl, hB⟩))
    go_ret2
    exact ⟨ret_si HV.out.1.symm HV.out.2.symm, hB⟩
end Go.Proofs.YtooocllampkibaaDoor
