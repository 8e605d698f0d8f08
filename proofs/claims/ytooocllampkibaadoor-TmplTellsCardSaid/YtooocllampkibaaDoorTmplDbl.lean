/- Plain: the dollars of a text doubled, by ReplaceAll. -/
import Derived.Test.YtooocllampkibaaDoorTmplM
import Derived.Lib.ReplaceLaws
namespace Go.Proofs.YtooocllampkibaaDoor
namespace Tp
def dbl : Bs → Bs
  | [] => []
  | x :: s => if x = D then D :: D :: dbl s else x :: dbl s
theorem dbl_len : ∀ s, (dbl s).length = s.length + s.count D
  | [] => rfl
  | x :: s => by
    rw [dbl]
    split
    · rename_i h; subst h; simp [dbl_len s]; omega
    · rename_i h; rw [List.count_cons_of_ne (by simpa using h)]; simp [dbl_len s]; omega
theorem dbl_append (s t : Bs) : dbl (s ++ t) = dbl s ++ dbl t := by
  induction s with
  | nil => rfl
  | cons x s ih => simp only [List.cons_append, dbl]; split <;> simp [ih]
theorem rk_ne (x : UInt8) (s new : Bs) (h : x ≠ D) (k : Nat) : Lib.replaceK [D] new k (x :: s) = x :: Lib.replaceK [D] new k s := by
  cases k with
  | zero => rfl
  | succ k =>
    have hp : ([D] : List UInt8).isPrefixOf (x :: s) = false := by simp [List.isPrefixOf, Ne.symm h]
    have hix : Lib.index (x :: s) [D] = if Lib.index s [D] == -1 then -1 else Lib.index s [D] + 1 := by rw [Lib.index, hp]; simp
    by_cases hm : Lib.index s [D] = -1
    · rw [Lib.replaceK, Lib.replaceK, if_pos (by rw [hix, if_pos (beq_iff_eq.2 hm)]; rfl), if_pos (by rw [hm]; rfl)]
    · have hge := Lib.index_ge s [D]
      obtain ⟨j, hj⟩ : ∃ j : Nat, Lib.index s [D] = j := ⟨(Lib.index s [D]).toNat, by omega⟩
      have hix' : Lib.index (x :: s) [D] = ((j + 1 : Nat) : Int) := by rw [hix, if_neg (fun e => hm (beq_iff_eq.1 e)), hj]; omega
      rw [Lib.replaceK_hit _ _ _ _ _ hix', Lib.replaceK_hit _ _ _ _ _ hj]
      simp
theorem rk_one : ∀ s : Bs, Lib.replaceK [D] [D, D] (Lib.count s [D]) s = dbl s
  | [] => by rw [Lib.count_one]; rfl
  | x :: s => by
    by_cases h : x = D
    · subst h
      have hix : Lib.index (D :: s) [D] = ((0 : Nat) : Int) := by rw [Lib.index]; simp [List.isPrefixOf]
      rw [Lib.count_cons_eq, Nat.add_comm, Lib.replaceK_hit _ _ _ _ _ hix]
      simp [dbl, rk_one s]
    · rw [Lib.count_cons_ne _ _ _ h, rk_ne _ _ _ h, rk_one s, dbl, if_neg h]
theorem replace_dbl (s : Bs) : Lib.replaceAll s [D] [D, D] = dbl s := by
  have h : Lib.replaceNum s [D] (-1) = Lib.count s [D] := by rw [Lib.replaceNum, if_pos (Or.inl (by omega))]
  rw [Lib.replaceAll, Lib.replace, h, rk_one, if_neg (by simp)]
/-- one round of the law's doubling -/
theorem dbl_take {s : Bs} {j : Nat} {c : UInt8} (h : s[j]? = some c) : dbl (s.take (j + 1)) = dbl (s.take j) ++ (if c = D then [D, D] else [c]) := by
  rw [List.take_add_one, h, dbl_append]
  simp only [Option.toList_some, dbl]
end Tp
end Go.Proofs.YtooocllampkibaaDoor
