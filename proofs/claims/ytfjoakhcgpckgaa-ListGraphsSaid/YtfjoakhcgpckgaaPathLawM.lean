/- Plain facts: the law's own way of critical things; what it shares with the program's. -/
import Derived.Test.YtfjoakhcgpckgaaPathRef
namespace Go.Proofs.Ytfjoakhcgpckgaa
open Go.ChangeShapes Go.WideShapes Go.ChangeAt Go.RowKit
open Gr (El Tm)
set_option linter.unusedVariables false
theorem leastI_cases (p : Nat → Bool) (n : Nat) : (∃ i : Nat, i < n ∧ leastI p n = i ∧ p i = true ∧ ∀ j, j < i → p j = false) ∨ (leastI p n = -1 ∧ ∀ j, j < n → p j = false) := by
  cases h : (List.range n).find? p with
  | none =>
    have hb : ∀ j, j < n → p j = false := fun j hj => by
      have := List.find?_eq_none.1 h j (List.mem_range.2 hj)
      simpa using this
    exact .inr ⟨leastI_none hb, hb⟩
  | some i =>
    obtain ⟨h1, h2, h3⟩ := List.find?_range_eq_some.1 h
    have hb : ∀ j, j < i → p j = false := fun j hj => by have := h3 j hj; simpa using this
    exact .inl ⟨i, List.mem_range.1 h2, leastI_some (List.mem_range.1 h2) h1 hb, h1, hb⟩
theorem leastI_congr {p q : Nat → Bool} {n : Nat} (h : ∀ k, k < n → p k = q k) : leastI p n = leastI q n := by
  rcases leastI_cases p n with ⟨i, hi, e, h1, h2⟩ | ⟨e, h2⟩
  · rw [e, leastI_some hi (by rw [← h i hi]; exact h1) fun j hj => by rw [← h j (by omega)]; exact h2 j hj]
  · rw [e, leastI_none fun j hj => by rw [← h j hj]; exact h2 j hj]
theorem leastI_ex {p : Nat → Bool} {n k : Nat} (hk : k < n) (hp : p k = true) : 0 ≤ leastI p n := by
  rcases leastI_cases p n with ⟨i, _, h, _⟩ | ⟨_, h⟩
  · omega
  · rw [h k hk] at hp; cases hp
theorem stepB_congr {L : El} {E T E' T' : Tm} {i k : Nat} {a a' : Int} (h1 : E k = E' k) (h2 : T k = T' k) (h3 : a = a') : stepB L E T i k a = stepB L E' T' i k a' := by
  subst h3
  unfold stepB
  rw [h1, h2]
theorem WayR.congr {n : Nat} {L : El} {d E T E' T' : Tm} {S S' : Int} (hE : ∀ i, i < n → E i = E' i) (hT : ∀ i, i < n → T i = T' i) (hS : S = S') {i : Int} {l : List Nat} (h : WayR n L d E T S i l) : i < n → WayR n L d E' T' S' i l := by
  subst hS
  induction h with
  | none h => intro _; exact .none h
  | last h => intro hi; exact .last (by rw [← hE _ (by omega)]; exact h)
  | go h t ih =>
    rename_i i l
    intro hi
    refine .go (by rw [← hE _ (by omega)]; exact h) ?_
    rw [← leastI_congr (p := fun k => stepB L E T i k (E i + d i)) fun k hk => stepB_congr (hE k hk) (hT k hk) (by rw [hE _ (by omega)])]
    exact ih (leastI_lt _ _)
/-- the law's test of the next thing -/
def lawP (L : El) (E T : Tm) (pre : List Nat) (at' : Int) (k : Nat) : Bool :=
  match pre.getLast? with
  | none => E k == at' && T k == at'
  | some c => (L.any fun z => z.1 == (c : Int) && z.2 == (k : Int)) && (E k == at' && T k == at')
theorem lawP_nil (L : El) (E T : Tm) (at' : Int) (k : Nat) : lawP L E T [] at' k = (E k == at' && T k == at') := rfl
theorem lawP_snoc (L : El) (E T : Tm) (pre : List Nat) (c : Nat) (at' : Int) (k : Nat) : lawP L E T (pre ++ [c]) at' k = ((L.any fun z => z.1 == (c : Int) && z.2 == (k : Int)) && (E k == at' && T k == at')) := by
  simp [lawP]
theorem lawP_step (L : El) (E T : Tm) (pre : List Nat) (c : Nat) (at' : Int) (k : Nat) : lawP L E T (pre ++ [c]) at' k = stepB L E T c k at' := by
  rw [lawP_snoc]
  unfold stepB
  rw [Bool.eq_iff_iff]
  simp only [Bool.and_eq_true, List.any_eq_true]
  constructor
  · rintro ⟨⟨x, hx, h1⟩, h2⟩; exact ⟨x, hx, h1, h2⟩
  · rintro ⟨x, hx, h1, h2⟩; exact ⟨⟨x, hx, h1⟩, h2⟩
theorem lawP_tight {L : El} {E T : Tm} {pre : List Nat} {at' : Int} {k : Nat} (h : lawP L E T pre at' k = true) : E k = at' ∧ T k = at' := by
  unfold lawP at h
  split at h
  · simpa using h
  · simp only [Bool.and_eq_true, beq_iff_eq] at h
    exact h.2
theorem lawP_off {L : El} {E T : Tm} {pre : List Nat} {at' : Int} {k : Nat} (h : (E k == at') = false) : lawP L E T pre at' k = false := by
  cases hp : lawP L E T pre at' k with
  | false => rfl
  | true => rw [(lawP_tight hp).1] at h; simp at h
/-- a list of those of which f says yes goes up -/
theorem yes_up (f : Nat → Bool) : ∀ n, (Gr.yes f n).Pairwise (· < ·)
  | 0 => List.Pairwise.nil
  | n + 1 => by
    rw [yes_go]
    split
    · refine List.pairwise_append.2 ⟨yes_up f n, List.pairwise_singleton _ _, fun a ha b hb => ?_⟩
      rw [List.mem_singleton] at hb
      subst hb
      exact (Gr.mem_yes.1 ha).1
    · exact yes_up f n
/-- the first thing of the list of which the test says yes -/
theorem first_yes {f p : Nat → Bool} {n q k : Nat} (hpf : ∀ k, p k = true → f k = true) (hk : (Gr.yes f n)[q]? = some k) (hp : p k = true) (hb : ∀ (r i : Nat), r < q → (Gr.yes f n)[r]? = some i → p i = false) : leastI p n = k := by
  have hkn := (Gr.mem_yes.1 (List.mem_of_getElem? hk)).1
  refine leastI_some hkn hp fun j hj => ?_
  cases hpj : p j with
  | false => rfl
  | true =>
    have hm : j ∈ Gr.yes f n := Gr.mem_yes.2 ⟨by omega, hpf j hpj⟩
    obtain ⟨r, hr, e⟩ := List.getElem_of_mem hm
    obtain ⟨hq, ek⟩ := List.getElem?_eq_some_iff.1 hk
    have hup := List.pairwise_iff_getElem.1 (yes_up f n)
    by_cases h1 : r < q
    · have := hb r j h1 (by rw [List.getElem?_eq_getElem hr, e])
      rw [this] at hpj; cases hpj
    · by_cases h2 : q = r
      · subst h2; omega
      · have := hup q r hq hr (by omega)
        omega
theorem last_yes {f p : Nat → Bool} {n : Nat} (hpf : ∀ k, p k = true → f k = true) (hb : ∀ (r i : Nat), r < (Gr.yes f n).length → (Gr.yes f n)[r]? = some i → p i = false) : leastI p n = -1 :=
  leastI_none fun j hj => by
    cases hpj : p j with
    | false => rfl
    | true =>
      obtain ⟨r, hr, e⟩ := List.getElem_of_mem (Gr.mem_yes.2 ⟨hj, hpf j hpj⟩)
      rw [hb r j hr (by rw [List.getElem?_eq_getElem hr, e])] at hpj; cases hpj
theorem lawP_same {L : El} {E T : Tm} {pre : List Nat} {at' : Int} (k : Nat) (h : lawP L E T pre at' k = true) : (E k == T k) = true := by
  obtain ⟨h1, h2⟩ := lawP_tight h
  simp [h1, h2]
theorem lawP_nil_on {L : El} {E T : Tm} {at' : Int} {k : Nat} (ht : (E k == T k) = true) (h : (E k == at') = true) : lawP L E T [] at' k = true := by
  rw [lawP_nil]
  simp only [beq_iff_eq, Bool.and_eq_true] at *
  omega
theorem lawP_snoc_on {L : El} {E T : Tm} {pre : List Nat} {c : Nat} {at' : Int} {k : Nat} (ht : (E k == T k) = true) (h : (E k == at') = true) : lawP L E T (pre ++ [c]) at' k = L.any fun z => z.1 == (c : Int) && z.2 == (k : Int) := by
  rw [lawP_snoc]
  have h2 : (E k == at' && T k == at') = true := by
    simp only [beq_iff_eq, Bool.and_eq_true] at *
    omega
  rw [h2, Bool.and_true]
/-- the law's way so far: what is to come from here, and that there is a next thing -/
structure WayI (n : Nat) (L : El) (d E T : Tm) (S : Int) (ord : List Nat) (pre : List Nat) (at' : Int) (g : Nat) : Prop where
  way : ∀ l', WayR n L d E T S (leastI (lawP L E T pre at') n) l' → WayR n L d E T S (leastI (fun i => E i == 0 && T i == 0) n) (pre ++ l')
  next : 0 < n → 0 ≤ leastI (lawP L E T pre at') n
  few : wayM n ord (leastI (lawP L E T pre at') n) ≤ g
theorem WayI.start {n : Nat} {L : El} {d E T : Tm} {S : Int} {ord : List Nat} (hO : Gr.Ok n L) (hT : Gr.Topo n L ord) (hE : Gr.IsE n L d E) (hS : Gr.IsS n d E S) (hL : Gr.IsL n L d S T) (hd : ∀ i, i < n → 0 ≤ d i ∧ d i ≤ 1000000000) : WayI n L d E T S ord [] 0 (n + 1) := by
  refine ⟨fun l' h => h, fun hn => ?_, wayM_le _ _ _⟩
  obtain ⟨i, hi, h1, h2⟩ := Gr.way_start hO hT hE hS hL (fun i hi => (hd i hi).1) hn
  exact leastI_ex hi (by rw [lawP_nil, h1, h2]; rfl)
theorem WayI.ex {n : Nat} {L : El} {d E T : Tm} {S : Int} {ord pre : List Nat} {at' : Int} {g : Nat} (h : WayI n L d E T S ord pre at' g) (hn : 0 < n) : ∃ j : Nat, j < n ∧ Hid (leastI (lawP L E T pre at') n = j) ∧ Hid (lawP L E T pre at' j = true) := by
  rcases leastI_cases (lawP L E T pre at') n with ⟨i, hi, e, h1, _⟩ | ⟨e, _⟩
  · exact ⟨i, hi, Lib.hid e, Lib.hid h1⟩
  · have := h.next hn; omega
theorem WayI.done {n : Nat} {L : El} {d E T : Tm} {S : Int} {ord pre row : List Nat} {at' : Int} {g : Nat} (h : WayI n L d E T S ord pre at' g) (hn : ¬ 0 < n) (hw : WayR n L d E T S (leastI (fun i => E i == 0 && T i == 0) n) row) : pre = row := by
  have h1 : leastI (lawP L E T pre at') n = -1 := leastI_none fun j hj => absurd hj (by omega)
  have := h.way [] (.none (by omega))
  rw [List.append_nil] at this
  exact this.uniq hw
theorem WayI.last {n : Nat} {L : El} {d E T : Tm} {S : Int} {ord pre row : List Nat} {at' : Int} {g j : Nat} (h : WayI n L d E T S ord pre at' g) (hj : leastI (lawP L E T pre at') n = j) (hs : E j + d j = S) (hw : WayR n L d E T S (leastI (fun i => E i == 0 && T i == 0) n) row) : pre ++ [j] = row :=
  (h.way [j] (hj ▸ .last hs)).uniq hw
theorem WayI.step {n : Nat} {L : El} {d E T : Tm} {S : Int} {ord pre : List Nat} {at' : Int} {g j : Nat} (hO : Gr.Ok n L) (hT : Gr.Topo n L ord) (hE : Gr.IsE n L d E) (hS : Gr.IsS n d E S) (hL : Gr.IsL n L d S T) (h : WayI n L d E T S ord pre at' g) (hjn : j < n) (hj : leastI (lawP L E T pre at') n = j) (hp : lawP L E T pre at' j = true) (hs : E j + d j ≠ S) : 0 < g ∧ WayI n L d E T S ord (pre ++ [j]) (at' + d j) (g - 1) := by
  obtain ⟨t1, t2⟩ := lawP_tight hp
  have e : leastI (lawP L E T (pre ++ [j]) (at' + d j)) n = leastI (fun k => stepB L E T j k (E j + d j)) n := leastI_congr fun k _ => by rw [lawP_step, t1]
  have hm := wayM_step (E := E) (T := T) (at' := E j + d j) hT hjn
  have hf := h.few
  rw [hj] at hf
  refine ⟨by omega, fun l' hl => ?_, fun _ => ?_, ?_⟩
  · rw [e] at hl
    have := h.way (j :: l') (hj ▸ .go hs hl)
    rw [List.append_assoc]
    exact this
  · rw [e]
    obtain ⟨k, hk, he, h1, h2⟩ := Gr.way_next hO hT hE hS hL hjn (by omega) hs
    refine leastI_ex hk ?_
    rw [stepB, List.any_eq_true]
    exact ⟨_, he, by simp [h1, h2]⟩
  · rw [e]; omega
end Go.Proofs.Ytfjoakhcgpckgaa
