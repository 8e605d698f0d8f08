/- Plain facts: a stable sort of numbers by what they have: the order, rows in that order, places that change. -/
import Derived.Test.YtfjoakhcgpckgaaBase
namespace Go.Proofs.Ytfjoakhcgpckgaa.St
set_option linter.unusedVariables false
/-- one number stands ahead of another one: by what it has, then by itself -/
def bef (kf : Int → Int) (x y : Int) : Prop := kf x < kf y ∨ (kf x = kf y ∧ x < y)
variable {kf : Int → Int}
theorem bef_trans {x y z : Int} (h1 : bef kf x y) (h2 : bef kf y z) : bef kf x z := by unfold bef at *; omega
theorem bef_asymm {x y : Int} (h1 : bef kf x y) (h2 : bef kf y x) : False := by unfold bef at *; omega
theorem bef_total {x y : Int} (h : ¬ bef kf x y) (hne : x ≠ y) : bef kf y x := by unfold bef at *; omega
def Srtd (kf : Int → Int) (L : List Int) : Prop := L.Pairwise (bef kf)
theorem sorted_uniq {l m : List Int} (hp : l.Perm m) (hl : Srtd kf l) (hm : Srtd kf m) : l = m :=
  List.Perm.eq_of_pairwise (fun a b _ _ h1 h2 => (bef_asymm h1 h2).elim) hl hm hp
/-- two places change places -/
theorem sw_eq (P Q R : List Int) (x y : Int) : ((P ++ x :: (Q ++ y :: R)).set P.length y).set (P.length + 1 + Q.length) x = P ++ y :: (Q ++ x :: R) := by
  rw [List.set_append_right _ _ (Nat.le_refl _), Nat.sub_self, List.set_cons_zero, List.set_append_right _ _ (by omega)]
  rw [show P.length + 1 + Q.length - P.length = Q.length + 1 from by omega, List.set_cons_succ, List.set_append_right _ _ (Nat.le_refl _), Nat.sub_self, List.set_cons_zero]
theorem sw_eq' (P Q R : List Int) (x y : Int) : ((P ++ x :: (Q ++ y :: R)).set (P.length + 1 + Q.length) x).set P.length y = P ++ y :: (Q ++ x :: R) := by
  rw [List.set_comm _ _ (by omega)]
  exact sw_eq P Q R x y
theorem at_fst (P : List Int) (x : Int) (R : List Int) : (P ++ x :: R)[P.length]? = some x := by simp
theorem at_snd (P Q R : List Int) (x y : Int) : (P ++ x :: (Q ++ y :: R))[P.length + 1 + Q.length]? = some y := by
  rw [List.getElem?_append_right (by omega), show P.length + 1 + Q.length - P.length = Q.length + 1 from by omega]
  simp
/-- insertion: x goes down to its place -/
structure InsI (kf : Int → Int) (A S R : List Int) (x : Int) (P Q L : List Int) : Prop where
  form : L = A ++ (P ++ x :: (Q ++ R))
  split : P ++ Q = S
  ahead : ∀ y, y ∈ Q → bef kf x y
theorem InsI.start {A S R : List Int} {x : Int} : InsI kf A S R x S [] (A ++ (S ++ x :: R)) := ⟨by simp, by simp, fun y h => by simp at h⟩
theorem InsI.done {A S R : List Int} {x : Int} {P Q L : List Int} (h : InsI kf A S R x P Q L) (hs : Srtd kf S) (hP : P = [] ∨ ∃ P' z, P = P' ++ [z] ∧ bef kf z x) : ∃ S', L = A ++ (S' ++ R) ∧ Srtd kf S' ∧ S'.Perm (S ++ [x]) := by
  refine ⟨P ++ x :: Q, by rw [h.form]; simp, ?_, ?_⟩
  · have hs2 := hs
    rw [← h.split] at hs2
    unfold Srtd at hs2 ⊢
    rw [List.pairwise_append] at hs2 ⊢
    obtain ⟨h1, h2, h3⟩ := hs2
    have hPx : ∀ y, y ∈ P → bef kf y x := fun y hy => by
      rcases hP with e | ⟨P', z, rfl, hz⟩
      · rw [e] at hy; simp at hy
      · rw [List.mem_append, List.mem_singleton] at hy
        rcases hy with hy | rfl
        · rw [List.pairwise_append] at h1
          exact bef_trans (h1.2.2 y hy z (by simp)) hz
        · exact hz
    refine ⟨h1, List.pairwise_cons.2 ⟨h.ahead, h2⟩, fun a ha b hb => ?_⟩
    rcases List.mem_cons.1 hb with rfl | hb
    · exact hPx a ha
    · exact h3 a ha b hb
  · rw [← h.split]
    exact List.perm_middle.trans (List.perm_append_singleton _ _).symm
theorem InsI.step {A S R : List Int} {x y : Int} {P Q L : List Int} (h : InsI kf A S R x (P ++ [y]) Q L) (hb : bef kf x y) : InsI kf A S R x P (y :: Q) (A ++ (P ++ x :: (y :: Q ++ R))) ∧ L = (A ++ P) ++ y :: ([] ++ x :: (Q ++ R)) ∧ A ++ (P ++ x :: (y :: Q ++ R)) = (A ++ P) ++ x :: ([] ++ y :: (Q ++ R)) := by
  refine ⟨⟨by simp, by have := h.split; simpa using this, fun z hz => ?_⟩, by rw [h.form]; simp, by simp⟩
  rcases List.mem_cons.1 hz with rfl | hz
  · exact hb
  · exact h.ahead z hz
/-! ### two rows in order become one -/
/-- what a merge of two rows gives -/
def Merged (kf : Int → Int) (U V W : List Int) : Prop := W.Perm (U ++ V) ∧ Srtd kf W
theorem Merged.len {U V W : List Int} (h : Merged kf U V W) : W.length = U.length + V.length := by rw [h.1.length_eq, List.length_append]
theorem merged_nil_left {V : List Int} (h : Srtd kf V) : Merged kf [] V V := ⟨List.Perm.refl _, h⟩
theorem merged_nil_right {U : List Int} (h : Srtd kf U) : Merged kf U [] U := ⟨by simp, h⟩
theorem srtd_app {U V : List Int} : Srtd kf (U ++ V) ↔ Srtd kf U ∧ Srtd kf V ∧ ∀ a, a ∈ U → ∀ b, b ∈ V → bef kf a b := List.pairwise_append
/-- one alone in front: it goes behind those that are ahead of it -/
theorem merged_one_left {u : Int} {V1 V2 : List Int} (hV : Srtd kf (V1 ++ V2)) (h1 : ∀ v, v ∈ V1 → bef kf v u) (h2 : ∀ v, v ∈ V2 → bef kf u v) : Merged kf [u] (V1 ++ V2) (V1 ++ u :: V2) := by
  refine ⟨List.perm_middle, ?_⟩
  obtain ⟨a, b, c⟩ := srtd_app.1 hV
  refine srtd_app.2 ⟨a, List.pairwise_cons.2 ⟨h2, b⟩, fun x hx y hy => ?_⟩
  rcases List.mem_cons.1 hy with rfl | hy
  · exact h1 x hx
  · exact c x hx y hy
theorem merged_one_right {v : Int} {U1 U2 : List Int} (hU : Srtd kf (U1 ++ U2)) (h1 : ∀ u, u ∈ U1 → bef kf u v) (h2 : ∀ u, u ∈ U2 → bef kf v u) : Merged kf (U1 ++ U2) [v] (U1 ++ v :: U2) := by
  have h := merged_one_left hU h1 h2
  exact ⟨h.1.trans (List.perm_append_comm (l₁ := [v])), h.2⟩
/-- both halves, each merged -/
theorem merged_join {U1 U2 V1 V2 W1 W2 : List Int} (hU : Srtd kf (U1 ++ U2)) (hV : Srtd kf (V1 ++ V2)) (h1 : Merged kf U1 V1 W1) (h2 : Merged kf U2 V2 W2)
    (hx : ∀ u, u ∈ U1 → ∀ v, v ∈ V2 → bef kf u v) (hy : ∀ v, v ∈ V1 → ∀ u, u ∈ U2 → bef kf v u) : Merged kf (U1 ++ U2) (V1 ++ V2) (W1 ++ W2) := by
  obtain ⟨_, _, cU⟩ := srtd_app.1 hU
  obtain ⟨_, _, cV⟩ := srtd_app.1 hV
  refine ⟨?_, srtd_app.2 ⟨h1.2, h2.2, fun a ha b hb => ?_⟩⟩
  · refine (List.Perm.append h1.1 h2.1).trans ?_
    have h : (U1 ++ V1 ++ (U2 ++ V2)).Perm (U1 ++ (U2 ++ (V1 ++ V2))) := by
      rw [List.append_assoc]
      refine List.Perm.append_left U1 ?_
      rw [← List.append_assoc, ← List.append_assoc]
      exact List.Perm.append_right V2 List.perm_append_comm
    rw [List.append_assoc U1 U2]
    exact h
  · rcases List.mem_append.1 (h1.1.mem_iff.1 ha) with h3 | h3 <;> rcases List.mem_append.1 (h2.1.mem_iff.1 hb) with h4 | h4
    · exact cU a h3 b h4
    · exact hx a h3 b h4
    · exact hy a h3 b h4
    · exact cV a h3 b h4
/-- a row in order: what holds of the last of a part holds of all of it -/
theorem srtd_le_last {U : List Int} {z : Int} (h : Srtd kf (U ++ [z])) : ∀ u, u ∈ U ++ [z] → u = z ∨ bef kf u z := fun u hu => by
  rcases List.mem_append.1 hu with h1 | h1
  · exact .inr ((srtd_app.1 h).2.2 u h1 z (by simp))
  · exact .inl (by simpa using h1)
theorem srtd_first_le {U : List Int} {z : Int} (h : Srtd kf (z :: U)) : ∀ u, u ∈ z :: U → u = z ∨ bef kf z u := fun u hu => by
  rcases List.mem_cons.1 hu with h1 | h1
  · exact .inl h1
  · exact .inr ((List.pairwise_cons.1 h).1 u h1)
/-- by indices -/
theorem srtd_at {L : List Int} (h : Srtd kf L) {i j : Nat} {x y : Int} (hi : L[i]? = some x) (hj : L[j]? = some y) (hij : i < j) : bef kf x y := by
  obtain ⟨h1, rfl⟩ := List.getElem?_eq_some_iff.1 hi
  obtain ⟨h2, rfl⟩ := List.getElem?_eq_some_iff.1 hj
  exact List.pairwise_iff_getElem.1 h i j h1 h2 hij
end Go.Proofs.Ytfjoakhcgpckgaa.St
