/- Plain facts: a row of things in which none is behind a later one is one alone. -/
import Derived.Test.YtfjoakhcgpckgaaHeapMath
namespace Go.Proofs.Ytfjoakhcgpckgaa.Hp
set_option linter.unusedVariables false
def strip (t : Th) : Th := ⟨t.prio, t.id, t.born, 0⟩
theorem strip_ahd (a b : Th) : ahd (strip a) (strip b) = ahd a b := rfl
theorem strip_le (a b : Th) : le (strip a) (strip b) ↔ le a b := Iff.rfl
theorem born_inj : ∀ {l : List Th}, (l.map Th.born).Nodup → ∀ {a b : Th}, a ∈ l → b ∈ l → a.born = b.born → a = b
  | [], _, _, _, h, _, _ => absurd h (by simp)
  | x :: l, hn, a, b, ha, hb, he => by
    rw [List.map_cons, List.nodup_cons] at hn
    rcases List.mem_cons.1 ha with h1 | h1 <;> rcases List.mem_cons.1 hb with h2 | h2
    · rw [h1, h2]
    · exact (hn.1 (List.mem_map.2 ⟨b, h2, by rw [← he, h1]⟩)).elim
    · exact (hn.1 (List.mem_map.2 ⟨a, h1, by rw [he, h2]⟩)).elim
    · exact born_inj hn.2 h1 h2 he
theorem row_uniq {l m : List Th} (hp : l.Perm m) (hn : (l.map Th.born).Nodup) (hl : l.Pairwise le) (hm : m.Pairwise le) : l = m :=
  List.Perm.eq_of_pairwise (fun a b ha hb h1 h2 => by
    unfold le at h1 h2
    rw [ahd_not] at h1 h2
    exact born_inj hn ha (hp.mem_iff.2 hb) (by omega)) hl hm hp
end Go.Proofs.Ytfjoakhcgpckgaa.Hp
