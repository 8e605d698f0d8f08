/- Plain facts: each job goes to the first hand that has least. -/
import Derived.Test.YtfjoakhcgpckgaaWorkM
import Derived.Test.YtfjoakhcgpckgaaDownward
namespace Go.Proofs.Ytfjoakhcgpckgaa.Wk
set_option linter.unusedVariables false
/-- the first of the hands that have least -/
def amin (f : Nat → Int) : Nat → Nat
  | 0 => 0
  | m + 1 => if f m < f (amin f m) then m else amin f m
theorem amin_min (f : Nat → Int) : ∀ m, 0 < m → FMin f m (amin f m)
  | m + 1, _ => by
    rcases Nat.eq_zero_or_pos m with h0 | h0
    · subst h0
      have : amin f 1 = 0 := by unfold amin; split <;> rfl
      rw [this]
      exact ⟨by omega, fun j hj => by obtain rfl : j = 0 := by omega
                                      omega, fun j hj => by omega⟩
    · have ih := amin_min f m h0
      unfold amin
      split
      · rename_i h
        exact ⟨by omega, fun j hj => by
          rcases Nat.lt_or_ge j m with h1 | h1
          · have := ih.le j h1; omega
          · obtain rfl : j = m := by omega
            omega, fun j hj => by have := ih.le j hj; omega⟩
      · rename_i h
        exact ⟨by have := ih.lt; omega, fun j hj => by
          rcases Nat.lt_or_ge j m with h1 | h1
          · exact ih.le j h1
          · obtain rfl : j = m := by omega
            omega, ih.fst⟩
def upd (g : Nat → Int) (i : Nat) (v : Int) : Nat → Int := fun j => if j = i then v else g j
def gstep (m : Nat) (D : List Int) (s : (Nat → Int) × (Nat → Int)) (o : Int) : (Nat → Int) × (Nat → Int) :=
  (put s.1 (amin s.1 m) (D.getD o.toNat 0), upd s.2 o.toNat (amin s.1 m))
/-- loads, and whose hand, behind the jobs os -/
def gs (m : Nat) (D os : List Int) : (Nat → Int) × (Nat → Int) := os.foldl (gstep m D) (fun _ => 0, fun _ => 0)
theorem gs_take {m : Nat} {D os : List Int} {q : Nat} {o : Int} (h : os[q]? = some o) : gs m D (os.take (q + 1)) = gstep m D (gs m D (os.take q)) o := by
  rw [List.take_add_one, h]
  unfold gs
  rw [List.foldl_append]
  rfl
theorem getD_bound {D : List Int} {c : Int} (hc : 0 ≤ c) (hD : ∀ x, x ∈ D → 0 ≤ x ∧ x ≤ c) (i : Nat) : 0 ≤ D.getD i 0 ∧ D.getD i 0 ≤ c := by
  rw [List.getD_eq_getElem?_getD]
  cases h : D[i]? with
  | none => simp; exact hc
  | some x => simpa using hD x (List.mem_of_getElem? h)
theorem gs_bound {m : Nat} {D os : List Int} (hD : ∀ x, x ∈ D → 0 ≤ x ∧ x ≤ 1000000000) : ∀ q i, 0 ≤ (gs m D (os.take q)).1 i ∧ (gs m D (os.take q)).1 i ≤ q * 1000000000
  | 0, i => by simp [gs]
  | q + 1, i => by
    cases h : os[q]? with
    | none =>
      have := gs_bound hD (m := m) (os := os) q i
      rw [List.take_add_one, h]
      simp only [Option.toList_none, List.append_nil]
      push_cast
      omega
    | some o =>
      rw [gs_take h]
      have h1 := gs_bound hD (m := m) (os := os) q i
      have h2 := gs_bound hD (m := m) (os := os) q (amin (gs m D (os.take q)).1 m)
      have h3 := getD_bound (by decide) hD o.toNat
      show 0 ≤ put _ _ _ i ∧ put _ _ _ i ≤ _
      unfold put
      push_cast
      split <;> omega
theorem gs_on {m : Nat} (hm : 0 < m) {D os : List Int} (hos : ∀ o, o ∈ os → 0 ≤ o) : ∀ q i, (0 ≤ (gs m D (os.take q)).2 i ∧ (gs m D (os.take q)).2 i < m)
  | 0, i => by simp [gs]; omega
  | q + 1, i => by
    have ih := gs_on hm (D := D) hos q i
    cases h : os[q]? with
    | none => rw [List.take_add_one, h]; simpa using ih
    | some o =>
      rw [gs_take h]
      have := (amin_min (gs m D (os.take q)).1 m hm).lt
      show 0 ≤ upd _ _ _ i ∧ upd _ _ _ i < m
      unfold upd
      split <;> omega
theorem gs_ldP {m : Nat} {D os : List Int} (hnd : os.Nodup) (hos : ∀ o, o ∈ os → 0 ≤ o) : ∀ q, (gs m D (os.take q)).1 = ldP (fun _ => 0) ((os.take q).map fun o => (((gs m D (os.take q)).2 o.toNat).toNat, D.getD o.toNat 0))
  | 0 => by simp [gs, ldP]
  | q + 1 => by
    have ih := gs_ldP hnd hos (m := m) (D := D) q
    cases h : os[q]? with
    | none => rw [List.take_add_one, h]; simpa using ih
    | some o =>
      rw [gs_take h, List.take_add_one, h]
      simp only [Option.toList_some, List.map_append, List.map_cons, List.map_nil]
      rw [ldP_snoc]
      have e1 : (gstep m D (gs m D (os.take q)) o).2 o.toNat = amin (gs m D (os.take q)).1 m := by simp [gstep, upd]
      have e2 : (os.take q).map (fun o' => (((gstep m D (gs m D (os.take q)) o).2 o'.toNat).toNat, D.getD o'.toNat 0)) = (os.take q).map (fun o' => (((gs m D (os.take q)).2 o'.toNat).toNat, D.getD o'.toNat 0)) := by
        apply List.map_congr_left
        intro o' ho'
        have hne : o'.toNat ≠ o.toNat := fun e => by
          have h0 := hos o' (List.mem_of_mem_take ho')
          have h1 := hos o (List.mem_of_getElem? h)
          have : o' = o := by omega
          subst this
          obtain ⟨j, hj, hj2⟩ := List.mem_iff_getElem.1 ho'
          rw [List.length_take] at hj
          have hq := (List.getElem?_eq_some_iff.1 h).1
          have e3 : os[j]? = some o' := by rw [← hj2, List.getElem_take]; exact List.getElem?_eq_getElem _
          have := (List.getElem?_inj hq hnd).1 (h.trans e3.symm)
          omega
        simp [gstep, upd, hne]
      rw [e2, e1, ← ih]
      simp [gstep]
theorem zip_map_range (D : List Int) (g : Nat → Nat) : ((List.range D.length).map g).zip D = (List.range D.length).map fun i => (g i, D.getD i 0) := by
  apply List.ext_getElem (by simp)
  intro j h1 h2
  have hj : j < D.length := by simpa using h2
  simp [List.getElem?_eq_getElem hj]
theorem gs_way {m : Nat} (hm : 0 < m) {D os : List Int} (hp : os.Perm (upn D.length)) : ∃ aw, Way m D aw ∧ (gs m D os).1 = ld (fun _ => 0) D aw := by
  have hos : ∀ o, o ∈ os → 0 ≤ o := fun o ho => (upn_mem.1 (hp.mem_iff.1 ho)).1
  have hnd : os.Nodup := hp.nodup_iff.2 (upn_nodup _)
  have h1 := gs_ldP (m := m) (D := D) hnd hos os.length
  have h2 := gs_on hm (D := D) hos os.length
  rw [List.take_length] at h1 h2
  refine ⟨(List.range D.length).map fun i => ((gs m D os).2 i).toNat, ⟨by simp, fun a ha => ?_⟩, ?_⟩
  · obtain ⟨i, _, rfl⟩ := List.mem_map.1 ha
    have := h2 i
    omega
  · rw [ld_ldP, zip_map_range, h1]
    refine (ldP_perm (hp.map _) _).trans ?_
    unfold upn
    rw [List.map_map]
    congr 1
end Go.Proofs.Ytfjoakhcgpckgaa.Wk
