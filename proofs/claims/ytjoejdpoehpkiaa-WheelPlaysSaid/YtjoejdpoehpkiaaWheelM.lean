/- Plain facts: a wheel of timers: where a timer stands, seen from a time; how it comes down when it is later. -/
import Derived.Test.YtjoejdpoehpkiaaBase
namespace Go.Proofs.Ytjoejdpoehpkiaa.Wh
set_option linter.unusedVariables false
/-- a timer that waits -/
structure Tm where
  at' : Int
  id : Int
  born : Int
deriving DecidableEq
/-- the level at which two times are apart -/
def lev (now x : Int) : Nat := if x / 64 = now / 64 then 0 else if x / 4096 = now / 4096 then 1 else if x / 262144 = now / 262144 then 2 else if x / 16777216 = now / 16777216 then 3 else 4
def wid (l : Nat) : Int := if l = 0 then 1 else if l = 1 then 64 else if l = 2 then 4096 else if l = 3 then 262144 else 16777216
/-- the slot of a time, seen from a time -/
def pl (now x : Int) : Nat := 64 * lev now x + (x / wid (lev now x) % 64).toNat
theorem lev_le (now x : Int) : lev now x ≤ 4 := by unfold lev; split <;> (try split) <;> (try split) <;> (try split) <;> omega
theorem pl_lt (now x : Int) : pl now x < 320 := by
  have := lev_le now x
  unfold pl
  have : (x / wid (lev now x) % 64).toNat < 64 := by omega
  omega
theorem lev_zero {now x : Int} (h : lev now x = 0) : x / 64 = now / 64 := by
  unfold lev at h
  split at h
  · assumption
  · split at h
    · omega
    · split at h
      · omega
      · split at h <;> omega
/-- the slot that is begun at a level -/
def cut (now : Int) (l : Nat) : Nat := 64 * l + (now / wid l % 64).toNat
/-- where a timer stands when the levels above l have come down -/
def mid (was now : Int) (l : Nat) (x : Int) : Nat := if l < lev was x then pl now x else pl was x
theorem mid_top (was now x : Int) : mid was now 4 x = pl was x := by
  unfold mid
  rw [if_neg (by have := lev_le was x; omega)]
theorem lev_eqs (now x : Int) : (lev now x = 0 ∧ x / 64 = now / 64) ∨ (lev now x = 1 ∧ x / 64 ≠ now / 64 ∧ x / 4096 = now / 4096) ∨ (lev now x = 2 ∧ x / 4096 ≠ now / 4096 ∧ x / 262144 = now / 262144) ∨ (lev now x = 3 ∧ x / 262144 ≠ now / 262144 ∧ x / 16777216 = now / 16777216) ∨ (lev now x = 4 ∧ x / 16777216 ≠ now / 16777216) := by
  unfold lev
  split
  · exact .inl ⟨rfl, by assumption⟩
  · split
    · exact .inr (.inl ⟨rfl, by assumption, by assumption⟩)
    · split
      · exact .inr (.inr (.inl ⟨rfl, by assumption, by assumption⟩))
      · split
        · exact .inr (.inr (.inr (.inl ⟨rfl, by assumption, by assumption⟩)))
        · exact .inr (.inr (.inr (.inr ⟨rfl, by assumption⟩)))
theorem pl0 {now x : Int} (h : lev now x = 0) : pl now x = (x % 64).toNat := by simp [pl, h, wid]
theorem pl1 {now x : Int} (h : lev now x = 1) : pl now x = 64 + (x / 64 % 64).toNat := by simp [pl, h, wid]
theorem pl2 {now x : Int} (h : lev now x = 2) : pl now x = 128 + (x / 4096 % 64).toNat := by simp [pl, h, wid]
theorem pl3 {now x : Int} (h : lev now x = 3) : pl now x = 192 + (x / 262144 % 64).toNat := by simp [pl, h, wid]
theorem pl4 {now x : Int} (h : lev now x = 4) : pl now x = 256 + (x / 16777216 % 64).toNat := by simp [pl, h, wid]
/-- the times that a timer may have, seen from a time -/
structure Ahead (was now x : Int) : Prop where
  pos : 0 ≤ was
  le : was ≤ now
  ge : now ≤ x
  near : x ≤ was + 16777216
theorem lev_low {was now x : Int} (h : Ahead was now x) : lev now x ≤ lev was x := by
  obtain ⟨h1, h2, h3, h4⟩ := h
  rcases lev_eqs was x with e | e | e | e | e <;> rcases lev_eqs now x with f | f | f | f | f <;> omega
/-- a level that is not begun anew: nothing turns -/
theorem mid_same {was now x : Int} (h : Ahead was now x) {l : Nat} (hl : 0 < l) (he : was / wid l = now / wid l) : mid was now (l - 1) x = mid was now l x := by
  obtain ⟨h1, h2, h3, h4⟩ := h
  unfold mid
  by_cases hm : l < lev was x
  · rw [if_pos hm, if_pos (by omega)]
  · by_cases hn : lev was x = l
    · rw [if_pos (by omega), if_neg hm]
      rcases lev_eqs was x with e | e | e | e | e
      · omega
      · rw [← hn, e.1] at he; simp [wid] at he
        have : lev now x = 1 := by rcases lev_eqs now x with f | f | f | f | f <;> omega
        rw [pl1 e.1, pl1 this]
      · rw [← hn, e.1] at he; simp [wid] at he
        have : lev now x = 2 := by rcases lev_eqs now x with f | f | f | f | f <;> omega
        rw [pl2 e.1, pl2 this]
      · rw [← hn, e.1] at he; simp [wid] at he
        have : lev now x = 3 := by rcases lev_eqs now x with f | f | f | f | f <;> omega
        rw [pl3 e.1, pl3 this]
      · rw [← hn, e.1] at he; simp [wid] at he
        have : lev now x = 4 := by rcases lev_eqs now x with f | f | f | f | f <;> omega
        rw [pl4 e.1, pl4 this]
    · rw [if_neg (by omega), if_neg hm]
/-- a slot that is begun: those in it come down -/
theorem mid_in {was now x : Int} (h : Ahead was now x) {l : Nat} (hl : 0 < l) (hl4 : l ≤ 4) (hm : mid was now l x = cut now l) : mid was now (l - 1) x = pl now x ∧ pl now x < 64 * l := by
  obtain ⟨h1, h2, h3, h4⟩ := h
  unfold mid at hm ⊢
  unfold cut at hm
  have hc : (now / wid l % 64).toNat < 64 := by omega
  by_cases hx : l < lev was x
  · rw [if_pos hx] at hm
    exfalso
    have hp : lev now x = l := by
      unfold pl at hm
      have : (x / wid (lev now x) % 64).toNat < 64 := by omega
      omega
    unfold pl at hm
    rw [hp] at hm
    have hq : x / wid l % 64 = now / wid l % 64 := by omega
    rcases lev_eqs now x with f | f | f | f | f
    · omega
    · rw [← hp, f.1] at hq; simp [wid] at hq; omega
    · rw [← hp, f.1] at hq; simp [wid] at hq; omega
    · rw [← hp, f.1] at hq; simp [wid] at hq; omega
    · have := lev_le was x; omega
  · rw [if_neg hx] at hm
    have hp : lev was x = l := by
      unfold pl at hm
      have : (x / wid (lev was x) % 64).toNat < 64 := by omega
      omega
    rw [if_pos (by omega)]
    refine ⟨rfl, ?_⟩
    unfold pl at hm
    rw [hp] at hm
    have hq : x / wid l % 64 = now / wid l % 64 := by omega
    have hlow : lev now x < l := by
      rcases lev_eqs was x with e | e | e | e | e
      · omega
      · rw [← hp, e.1] at hq; simp [wid] at hq; rcases lev_eqs now x with f | f | f | f | f <;> omega
      · rw [← hp, e.1] at hq; simp [wid] at hq; rcases lev_eqs now x with f | f | f | f | f <;> omega
      · rw [← hp, e.1] at hq; simp [wid] at hq; rcases lev_eqs now x with f | f | f | f | f <;> omega
      · rw [← hp, e.1] at hq; simp [wid] at hq; rcases lev_eqs now x with f | f | f | f | f <;> omega
    unfold pl
    have : (x / wid (lev now x) % 64).toNat < 64 := by omega
    omega
/-- those that are not in it stay -/
theorem mid_out {was now x : Int} (h : Ahead was now x) {l : Nat} (hl : 0 < l) (hl4 : l ≤ 4) (hm : mid was now l x ≠ cut now l) : mid was now (l - 1) x = mid was now l x := by
  obtain ⟨h1, h2, h3, h4⟩ := h
  unfold mid at hm ⊢
  unfold cut at hm
  by_cases hx : l < lev was x
  · rw [if_pos hx, if_pos (by omega)]
  · by_cases hn : lev was x = l
    · rw [if_neg hx] at hm
      rw [if_pos (by omega), if_neg hx]
      have hq : x / wid l ≠ now / wid l := fun e => hm (by unfold pl; rw [hn, e])
      rcases lev_eqs was x with e | e | e | e | e
      · omega
      · rw [← hn, e.1] at hq; simp [wid] at hq
        have : lev now x = 1 := by rcases lev_eqs now x with f | f | f | f | f <;> omega
        rw [pl1 e.1, pl1 this]
      · rw [← hn, e.1] at hq; simp [wid] at hq
        have : lev now x = 2 := by rcases lev_eqs now x with f | f | f | f | f <;> omega
        rw [pl2 e.1, pl2 this]
      · rw [← hn, e.1] at hq; simp [wid] at hq
        have : lev now x = 3 := by rcases lev_eqs now x with f | f | f | f | f <;> omega
        rw [pl3 e.1, pl3 this]
      · rw [← hn, e.1] at hq; simp [wid] at hq
        have : lev now x = 4 := by rcases lev_eqs now x with f | f | f | f | f <;> omega
        rw [pl4 e.1, pl4 this]
    · rw [if_neg (by omega), if_neg hx]
theorem mid_end {was now x : Int} (h : Ahead was now x) : mid was now 0 x = pl now x := by
  have hlow := lev_low h
  unfold mid
  split
  · rfl
  · have h0 : lev was x = 0 := by omega
    have h1 : lev now x = 0 := by omega
    rw [pl0 h0, pl0 h1]
/-- the timers of the slot of this very time -/
theorem pl_now {now x : Int} (hp : 0 ≤ now) (hx : now ≤ x) (he : pl now x = pl now now) : x = now := by
  have h0 : lev now now = 0 := by unfold lev; rw [if_pos rfl]
  rw [pl0 h0] at he
  have h1 : lev now x = 0 := by
    unfold pl at he
    omega
  have := lev_zero h1
  rw [pl0 h1] at he
  omega
/-- the slots of a wheel hold just the timers that wait, each where it belongs -/
structure Inv (p : Int → Nat) (T : List Tm) (S : Nat → List Tm) : Prop where
  mem : ∀ i t, t ∈ S i ↔ t ∈ T ∧ p t.at' = i
  nodup : ∀ i, (S i).Nodup
theorem Inv.congr {p q : Int → Nat} {T : List Tm} {S : Nat → List Tm} (h : Inv p T S) (he : ∀ t, t ∈ T → q t.at' = p t.at') : Inv q T S :=
  ⟨fun i t => by rw [h.mem]; exact ⟨fun ⟨a, b⟩ => ⟨a, by rw [he t a]; exact b⟩, fun ⟨a, b⟩ => ⟨a, by rw [← he t a]; exact b⟩⟩, h.nodup⟩
def upd (S : Nat → List Tm) (i : Nat) (l : List Tm) : Nat → List Tm := fun k => if k = i then l else S k
/-- timers that are in hand: taken out of their slot, not yet put -/
structure Hand (p : Int → Nat) (T : List Tm) (l : List Tm) (S : Nat → List Tm) : Prop where
  mem : ∀ i t, t ∈ S i ∨ (t ∈ l ∧ p t.at' = i) ↔ t ∈ T ∧ p t.at' = i
  nodup : ∀ i, (S i).Nodup
  own : l.Nodup
  out : ∀ i t, t ∈ l → t ∉ S i
theorem Hand.begin {p q : Int → Nat} {T : List Tm} {S : Nat → List Tm} {c : Nat} (h : Inv p T S) (hin : ∀ t, t ∈ T → p t.at' = c → q t.at' ≠ c) (hout : ∀ t, t ∈ T → p t.at' ≠ c → q t.at' = p t.at') (hq : ∀ t, t ∈ T → q t.at' = c → p t.at' = c) : Hand q T (S c) (upd S c []) := by
  refine ⟨fun i t => ?_, fun i => ?_, h.nodup c, fun i t ht hi => ?_⟩
  · unfold upd
    by_cases hi : i = c
    · subst hi
      rw [if_pos rfl]
      constructor
      · rintro (h1 | ⟨h1, h2⟩)
        · simp at h1
        · exact ⟨((h.mem _ _).1 h1).1, h2⟩
      · rintro ⟨h1, h2⟩
        exact .inr ⟨(h.mem _ _).2 ⟨h1, hq t h1 h2⟩, h2⟩
    · rw [if_neg hi]
      constructor
      · rintro (h1 | ⟨h1, h2⟩)
        · obtain ⟨a, b⟩ := (h.mem _ _).1 h1
          exact ⟨a, by rw [hout t a (by omega)]; exact b⟩
        · exact ⟨((h.mem _ _).1 h1).1, h2⟩
      · rintro ⟨h1, h2⟩
        by_cases hc : p t.at' = c
        · exact .inr ⟨(h.mem _ _).2 ⟨h1, hc⟩, h2⟩
        · exact .inl ((h.mem _ _).2 ⟨h1, by rw [← hout t h1 hc]; exact h2⟩)
  · unfold upd
    split
    · simp
    · exact h.nodup i
  · unfold upd at hi
    split at hi
    · simp at hi
    · have h1 := (h.mem _ _).1 ht
      have h2 := (h.mem _ _).1 hi
      omega
theorem Hand.put {q : Int → Nat} {T : List Tm} {t : Tm} {l : List Tm} {S : Nat → List Tm} (h : Hand q T (t :: l) S) : Hand q T l (upd S (q t.at') (S (q t.at') ++ [t])) := by
  have hn := List.nodup_cons.1 h.own
  refine ⟨fun i u => ?_, fun i => ?_, hn.2, fun i u hu hi => ?_⟩
  · rw [← h.mem i u]
    unfold upd
    by_cases hi : i = q t.at'
    · subst hi
      rw [if_pos rfl, List.mem_append, List.mem_singleton, List.mem_cons]
      constructor
      · rintro ((h1 | h1) | h1)
        · exact .inl h1
        · subst h1; exact .inr ⟨.inl rfl, rfl⟩
        · exact .inr ⟨.inr h1.1, h1.2⟩
      · rintro (h1 | ⟨h1 | h1, h2⟩)
        · exact .inl (.inl h1)
        · exact .inl (.inr h1)
        · exact .inr ⟨h1, h2⟩
    · rw [if_neg hi, List.mem_cons]
      constructor
      · rintro (h1 | h1)
        · exact .inl h1
        · exact .inr ⟨.inr h1.1, h1.2⟩
      · rintro (h1 | ⟨h1 | h1, h2⟩)
        · exact .inl h1
        · subst h1; omega
        · exact .inr ⟨h1, h2⟩
  · unfold upd
    split
    · rw [List.nodup_append]
      refine ⟨h.nodup _, by simp, fun a ha b hb => ?_⟩
      rw [List.mem_singleton] at hb
      subst hb
      intro e
      subst e
      exact h.out _ _ (by simp) ha
    · exact h.nodup i
  · unfold upd at hi
    split at hi
    · rcases List.mem_append.1 hi with h1 | h1
      · exact h.out _ _ (List.mem_cons_of_mem _ hu) h1
      · rw [List.mem_singleton] at h1
        subst h1
        exact hn.1 hu
    · exact h.out _ _ (List.mem_cons_of_mem _ hu) hi
theorem Hand.done {q : Int → Nat} {T : List Tm} {S : Nat → List Tm} (h : Hand q T [] S) : Inv q T S :=
  ⟨fun i t => by rw [← h.mem i t]; simp, h.nodup⟩
/-- a level that is begun -/
theorem Inv.down {was now : Int} {T : List Tm} {S : Nat → List Tm} {l : Nat} (hl : 0 < l) (hl4 : l ≤ 4) (hT : ∀ t, t ∈ T → Ahead was now t.at') (h : Inv (mid was now l) T S) : Hand (mid was now (l - 1)) T (S (cut now l)) (upd S (cut now l) []) := by
  have hc : 64 * l ≤ cut now l := by unfold cut; omega
  refine Hand.begin h (fun t ht he => ?_) (fun t ht he => mid_out (hT t ht) hl hl4 he) (fun t ht he => ?_)
  · obtain ⟨h1, h2⟩ := mid_in (hT t ht) hl hl4 he
    omega
  · by_cases hn : mid was now l t.at' = cut now l
    · exact hn
    · rw [mid_out (hT t ht) hl hl4 hn] at he
      exact he
/-- a timer more -/
theorem Inv.add {p : Int → Nat} {T : List Tm} {S : Nat → List Tm} {t : Tm} (h : Inv p T S) (hn : t ∉ T) : Inv p (T ++ [t]) (upd S (p t.at') (S (p t.at') ++ [t])) := by
  refine ⟨fun i u => ?_, fun i => ?_⟩
  · unfold upd
    by_cases hi : i = p t.at'
    · subst hi
      rw [if_pos rfl, List.mem_append, List.mem_append, h.mem, List.mem_singleton]
      constructor
      · rintro (h1 | h1)
        · exact ⟨.inl h1.1, h1.2⟩
        · subst h1; exact ⟨.inr rfl, rfl⟩
      · rintro ⟨h1 | h1, h2⟩
        · exact .inl ⟨h1, h2⟩
        · exact .inr h1
    · rw [if_neg hi, List.mem_append, h.mem, List.mem_singleton]
      constructor
      · rintro ⟨h1, h2⟩; exact ⟨.inl h1, h2⟩
      · rintro ⟨h1 | h1, h2⟩
        · exact ⟨h1, h2⟩
        · subst h1; omega
  · unfold upd
    split
    · rw [List.nodup_append]
      refine ⟨h.nodup _, by simp, fun a ha b hb => ?_⟩
      rw [List.mem_singleton] at hb
      subst hb
      intro e
      subst e
      exact hn ((h.mem _ _).1 ha).1
    · exact h.nodup i
/-- those of an id are struck -/
theorem Inv.strike {p : Int → Nat} {T : List Tm} {S : Nat → List Tm} {x : Tm} (h : Inv p T S) (hx : x ∈ T) (hu : ∀ t, t ∈ T → t.id = x.id → t = x) : Inv p (T.filter fun t => t.id != x.id) (upd S (p x.at') ((S (p x.at')).filter fun t => t.id != x.id)) := by
  refine ⟨fun i u => ?_, fun i => ?_⟩
  · unfold upd
    by_cases hi : i = p x.at'
    · subst hi
      rw [if_pos rfl, List.mem_filter, List.mem_filter, h.mem]
      exact ⟨fun ⟨⟨a, b⟩, c⟩ => ⟨⟨a, c⟩, b⟩, fun ⟨⟨a, c⟩, b⟩ => ⟨⟨a, b⟩, c⟩⟩
    · rw [if_neg hi, List.mem_filter, h.mem]
      refine ⟨fun ⟨a, b⟩ => ⟨⟨a, ?_⟩, b⟩, fun ⟨⟨a, _⟩, b⟩ => ⟨a, b⟩⟩
      simp only [bne_iff_ne, ne_eq]
      intro e
      have := hu u a e
      subst this
      exact hi b.symm
  · unfold upd
    split
    · exact List.Nodup.sublist List.filter_sublist (h.nodup _)
    · exact h.nodup i
/-- a slot that is told -/
theorem Inv.told {p : Int → Nat} {T : List Tm} {S : Nat → List Tm} {x : Int} (h : Inv p T S) (hu : ∀ t, t ∈ T → p t.at' = p x → t.at' = x) : Inv p (T.filter fun t => t.at' != x) (upd S (p x) []) := by
  refine ⟨fun i u => ?_, fun i => ?_⟩
  · unfold upd
    by_cases hi : i = p x
    · subst hi
      rw [if_pos rfl, List.mem_filter]
      simp only [List.not_mem_nil, bne_iff_ne, ne_eq, false_iff]
      rintro ⟨⟨a, b⟩, c⟩
      exact b (hu u a c)
    · rw [if_neg hi, List.mem_filter, h.mem]
      refine ⟨fun ⟨a, b⟩ => ⟨⟨a, ?_⟩, b⟩, fun ⟨⟨a, _⟩, b⟩ => ⟨a, b⟩⟩
      simp only [bne_iff_ne, ne_eq]
      intro e
      rw [e] at b
      exact hi b.symm
  · unfold upd
    split
    · simp
    · exact h.nodup i
end Go.Proofs.Ytjoejdpoehpkiaa.Wh
