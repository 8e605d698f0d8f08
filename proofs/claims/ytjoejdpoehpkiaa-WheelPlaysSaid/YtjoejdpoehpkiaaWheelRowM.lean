/- Plain facts: timers told, one after the other or those of one time together: it is one row. -/
import Derived.Test.YtjoejdpoehpkiaaWheelM
namespace Go.Proofs.Ytjoejdpoehpkiaa.Wh
set_option linter.unusedVariables false
def lt (a b : Tm) : Prop := a.at' < b.at' ∨ (a.at' = b.at' ∧ a.born < b.born)
theorem lt_trans {a b c : Tm} (h1 : lt a b) (h2 : lt b c) : lt a c := by unfold lt at *; omega
theorem lt_irrefl (a : Tm) : ¬ lt a a := by unfold lt; omega
theorem srt_uniq : ∀ {a b : List Tm}, a.Pairwise lt → b.Pairwise lt → (∀ t, t ∈ a ↔ t ∈ b) → a = b
  | [], [], _, _, _ => rfl
  | [], y :: b, _, _, h => by have := (h y).2 (by simp); simp at this
  | x :: a, [], _, _, h => by have := (h x).1 (by simp); simp at this
  | x :: a, y :: b, ha, hb, h => by
    have ha' := List.pairwise_cons.1 ha
    have hb' := List.pairwise_cons.1 hb
    have e : x = y := by
      rcases List.mem_cons.1 ((h x).1 (by simp)) with h1 | h1
      · exact h1
      · rcases List.mem_cons.1 ((h y).2 (by simp)) with h2 | h2
        · exact h2.symm
        · exact absurd (lt_trans (ha'.1 y h2) (hb'.1 x h1)) (lt_irrefl _)
    subst e
    congr 1
    refine srt_uniq ha'.2 hb'.2 fun t => ⟨fun ht => ?_, fun ht => ?_⟩
    · rcases List.mem_cons.1 ((h t).1 (List.mem_cons_of_mem _ ht)) with h1 | h1
      · subst h1; exact absurd (ha'.1 _ ht) (lt_irrefl _)
      · exact h1
    · rcases List.mem_cons.1 ((h t).2 (List.mem_cons_of_mem _ ht)) with h1 | h1
      · subst h1; exact absurd (hb'.1 _ ht) (lt_irrefl _)
      · exact h1
/-- told and left -/
structure Told (T out left : List Tm) : Prop where
  left' : left = T.filter fun t => decide (t ∉ out)
  sub : ∀ t, t ∈ out → t ∈ T
  row : out.Pairwise lt
  ahead : ∀ a, a ∈ out → ∀ b, b ∈ left → lt a b
theorem Told.start (T : List Tm) : Told T [] T := ⟨(List.filter_eq_self.2 (by simp)).symm, fun t h => by simp at h, List.Pairwise.nil, fun a h => by simp at h⟩
theorem Told.mem {T out left : List Tm} (h : Told T out left) (t : Tm) : t ∈ left ↔ t ∈ T ∧ t ∉ out := by rw [h.left']; simp
/-- a row more is told -/
theorem Told.step {T out left L : List Tm} (h : Told T out left) (hL : L.Pairwise lt) (hs : ∀ t, t ∈ L → t ∈ left) (ha : ∀ a, a ∈ L → ∀ b, b ∈ left → b ∉ L → lt a b) {left' : List Tm} (he : left' = left.filter fun t => decide (t ∉ L)) : Told T (out ++ L) left' := by
  refine ⟨?_, fun t ht => ?_, ?_, fun a ha' b hb => ?_⟩
  · rw [he, h.left', List.filter_filter]
    congr 1
    funext t
    simp [List.mem_append, not_or, Bool.and_comm]
  · rcases List.mem_append.1 ht with h1 | h1
    · exact h.sub t h1
    · exact ((h.mem t).1 (hs t h1)).1
  · rw [List.pairwise_append]
    exact ⟨h.row, hL, fun a ha' b hb => h.ahead a ha' b (hs b hb)⟩
  · rw [he, List.mem_filter] at hb
    rcases List.mem_append.1 ha' with h1 | h1
    · exact h.ahead a h1 b hb.1
    · exact ha a h1 b hb.1 (by simpa using hb.2)
/-- what is told up to a time -/
structure Upto (T out left : List Tm) (e : Int) : Prop where
  told : Told T out left
  le : ∀ t, t ∈ out → t.at' ≤ e
  gt : ∀ t, t ∈ left → e < t.at'
theorem Upto.left {T out left : List Tm} {e : Int} (h : Upto T out left e) : left = T.filter fun t => decide (e < t.at') := by
  rw [h.told.left']
  refine List.filter_congr fun t ht => ?_
  by_cases ho : t ∈ out
  · have := h.le t ho
    simp [ho]
    omega
  · have := h.gt t ((h.told.mem t).2 ⟨ht, ho⟩)
    simp [ho, this]
theorem Upto.mem {T out left : List Tm} {e : Int} (h : Upto T out left e) (t : Tm) : t ∈ out ↔ t ∈ T ∧ t.at' ≤ e := by
  refine ⟨fun ht => ⟨h.told.sub t ht, h.le t ht⟩, fun ⟨ht, he⟩ => ?_⟩
  by_cases ho : t ∈ out
  · exact ho
  · have := h.gt t ((h.told.mem t).2 ⟨ht, ho⟩)
    omega
theorem Upto.uniq {T o1 o2 l1 l2 : List Tm} {e : Int} (h1 : Upto T o1 l1 e) (h2 : Upto T o2 l2 e) : o1 = o2 ∧ l1 = l2 :=
  ⟨srt_uniq h1.told.row h2.told.row fun t => by rw [h1.mem, h2.mem], by rw [h1.left, h2.left]⟩
/-- the row in which timers came -/
structure Came (T : List Tm) : Prop where
  born : T.Pairwise fun a b => a.born < b.born
  ids : T.Pairwise fun a b => a.id ≠ b.id
theorem Came.nil : Came [] := ⟨List.Pairwise.nil, List.Pairwise.nil⟩
theorem Came.sub {T U : List Tm} (h : Came T) (hs : U.Sublist T) : Came U := ⟨h.born.sublist hs, h.ids.sublist hs⟩
theorem Came.nodup {T : List Tm} (h : Came T) : T.Nodup := h.born.imp fun {a b} hab e => by subst e; omega
theorem Came.uniq {T : List Tm} (h : Came T) {a b : Tm} (ha : a ∈ T) (hb : b ∈ T) (e : a.id = b.id) : a = b := by
  induction h.ids with
  | nil => simp at ha
  | cons hx hxs ih =>
    rcases List.mem_cons.1 ha with h1 | h1 <;> rcases List.mem_cons.1 hb with h2 | h2
    · rw [h1, h2]
    · subst h1; exact absurd e (hx b h2)
    · subst h2; exact absurd e.symm (hx a h1)
    · exact ih (h.sub (List.sublist_cons_self _ _)) h1 h2
theorem Came.add {T : List Tm} {t : Tm} (h : Came T) (h1 : ∀ x, x ∈ T → x.born < t.born) (h2 : ∀ x, x ∈ T → x.id ≠ t.id) : Came (T ++ [t]) := by
  refine ⟨?_, ?_⟩
  · rw [List.pairwise_append]
    exact ⟨h.born, by simp, fun a ha b hb => by rw [List.mem_singleton] at hb; subst hb; exact h1 a ha⟩
  · rw [List.pairwise_append]
    exact ⟨h.ids, by simp, fun a ha b hb => by rw [List.mem_singleton] at hb; subst hb; exact h2 a ha⟩
/-- the first one of the least time, of the first q -/
structure Frst (L : List Tm) (q : Nat) (b : Nat) (x : Tm) : Prop where
  at' : L[b]? = some x
  le' : b < q
  least : ∀ (i : Nat) (y : Tm), i < q → L[i]? = some y → x.at' ≤ y.at' ∧ (i < b → x.at' < y.at')
theorem Frst.start {L : List Tm} {x : Tm} (h : L[0]? = some x) : Frst L 1 0 x := ⟨h, by omega, fun i y hi hy => by
  obtain rfl : i = 0 := by omega
  rw [h] at hy
  cases hy
  omega⟩
theorem Frst.next {L : List Tm} {q b : Nat} {x y : Tm} (h : Frst L q b x) (hy : L[q]? = some y) (hg : y.at' < x.at') : Frst L (q + 1) q y :=
  ⟨hy, by omega, fun i z hi hz => by
    by_cases e : i = q
    · subst e
      rw [hy] at hz
      cases hz
      omega
    · have := (h.least i z (by omega) hz).1
      omega⟩
theorem Frst.keep {L : List Tm} {q b : Nat} {x y : Tm} (h : Frst L q b x) (hy : L[q]? = some y) (hg : ¬ y.at' < x.at') : Frst L (q + 1) b x :=
  ⟨h.at', by have := h.le'; omega, fun i z hi hz => by
    by_cases e : i = q
    · subst e
      rw [hy] at hz
      cases hz
      have := h.le'
      omega
    · exact h.least i z (by omega) hz⟩
theorem filter_take_drop {L : List Tm} (hn : L.Nodup) {b : Nat} {x : Tm} (h : L[b]? = some x) : L.take b ++ L.drop (b + 1) = L.filter fun t => decide (t ∉ [x]) := by
  obtain ⟨u, v, rfl, rfl⟩ : ∃ u v, L = u ++ x :: v ∧ u.length = b := by
    obtain ⟨hb, rfl⟩ := List.getElem?_eq_some_iff.1 h
    exact ⟨L.take b, L.drop (b + 1), by rw [← List.drop_eq_getElem_cons hb, List.take_append_drop], by rw [List.length_take]; omega⟩
  rw [List.nodup_append] at hn
  obtain ⟨h1, h2, h3⟩ := hn
  have h4 := List.nodup_cons.1 h2
  rw [List.filter_append, List.filter_cons]
  have e1 : u.filter (fun t => decide (t ∉ [x])) = u := List.filter_eq_self.2 fun t ht => by
    have := h3 t ht x (by simp)
    simp [this]
  have e2 : v.filter (fun t => decide (t ∉ [x])) = v := List.filter_eq_self.2 fun t ht => by
    have : t ≠ x := fun e => h4.1 (e ▸ ht)
    simp [this]
  rw [e1, e2]
  simp
/-- the document's step -/
theorem Told.one {T out left : List Tm} (h : Told T out left) (hc : Came T) {b : Nat} {x : Tm} (hf : Frst left left.length b x) : Told T (out ++ [x]) (left.take b ++ left.drop (b + 1)) := by
  have hcl : Came left := hc.sub (by rw [h.left']; exact List.filter_sublist)
  refine h.step (by simp) (fun t ht => ?_) (fun a ha y hy hn => ?_) (filter_take_drop hcl.nodup hf.at')
  · rw [List.mem_singleton] at ht
    subst ht
    exact List.mem_of_getElem? hf.at'
  · rw [List.mem_singleton] at ha
    subst ha
    obtain ⟨i, hi, rfl⟩ := List.getElem_of_mem hy
    have hl := hf.least i left[i] hi (List.getElem?_eq_getElem hi)
    unfold lt
    by_cases he : a.at' < left[i].at'
    · exact .inl he
    · refine .inr ⟨by omega, ?_⟩
      have hbi : ¬ i < b := fun h => he (hl.2 h)
      have hne : i ≠ b := fun e => by
        subst e
        have := hf.at'
        rw [List.getElem?_eq_getElem hi] at this
        exact hn (by rw [Option.some.inj this]; simp)
      obtain ⟨hb, e⟩ := List.getElem?_eq_some_iff.1 hf.at'
      have := List.pairwise_iff_getElem.1 hcl.born b i hb hi (by omega)
      rw [e] at this
      exact this
/-- the wheel's step: those of the least time, by their birth -/
theorem Told.slot {T out left L : List Tm} (h : Told T out left) {m : Int} (hl : ∀ t, t ∈ left → m ≤ t.at') (hL : L.Pairwise fun a b => a.born < b.born) (hm : ∀ t, t ∈ L ↔ t ∈ left ∧ t.at' = m) : Told T (out ++ L) (left.filter fun t => t.at' != m) := by
  refine h.step (L := L) (List.Pairwise.imp_of_mem (fun {a b} ha hb hab => .inr ⟨by rw [((hm a).1 ha).2, ((hm b).1 hb).2], hab⟩) hL) (fun t ht => ((hm t).1 ht).1) (fun a ha y hy hn => ?_) (List.filter_congr fun t ht => ?_)
  · have h1 := ((hm a).1 ha).2
    have h2 := hl y hy
    have h3 : y.at' ≠ m := fun e => hn ((hm y).2 ⟨hy, e⟩)
    unfold lt
    omega
  · by_cases he : t.at' = m
    · have := (hm t).2 ⟨ht, he⟩
      simp [this, he]
    · have : t ∉ L := fun hc => he ((hm t).1 hc).2
      simp [this, he]
end Go.Proofs.Ytjoejdpoehpkiaa.Wh
