/- Plain facts: the times as they are reckoned along a row of all, and step by step. -/
import Derived.Test.YtfjoakhcgpckgaaPathMath
namespace Go.Proofs.Ytfjoakhcgpckgaa.Gr
set_option linter.unusedVariables false
def upd (f : Tm) (i : Nat) (v : Int) : Tm := fun x => if x = i then v else f x
theorem upd_same (f : Tm) (i : Nat) (v : Int) : upd f i v i = v := by simp [upd]
theorem upd_other (f : Tm) {i x : Nat} (v : Int) (h : x ≠ i) : upd f i v x = f x := by simp [upd, h]
/-- the earliest time of a thing by the first k edges -/
def valE (L : El) (d E : Tm) (i : Nat) : Nat → Int
  | 0 => 0
  | k + 1 => match L[k]? with
    | some (x, y) => if y = (i : Int) then max (valE L d E i k) (E x.toNat + d x.toNat) else valE L d E i k
    | none => valE L d E i k
theorem valE_go {L : El} {k : Nat} {x y : Int} (h : L[k]? = some (x, y)) (d E : Tm) (i : Nat) : valE L d E i (k + 1) = if y = (i : Int) then max (valE L d E i k) (E x.toNat + d x.toNat) else valE L d E i k := by simp [valE, h]
theorem valE_spec {n : Nat} {L : El} (hO : Ok n L) (d E : Tm) (i : Nat) : ∀ k, k ≤ L.length → 0 ≤ valE L d E i k ∧ (∀ j : Nat, ((j : Int), (i : Int)) ∈ L.take k → E j + d j ≤ valE L d E i k) ∧ (valE L d E i k = 0 ∨ ∃ j : Nat, ((j : Int), (i : Int)) ∈ L.take k ∧ valE L d E i k = E j + d j)
  | 0, _ => ⟨Int.le_refl _, fun j hj => by simp at hj, .inl rfl⟩
  | k + 1, hk => by
    obtain ⟨h1, h2, h3⟩ := valE_spec hO d E i k (by omega)
    obtain ⟨⟨x, y⟩, hx⟩ : ∃ p, L[k]? = some p := ⟨_, List.getElem?_eq_getElem (by omega)⟩
    obtain ⟨o1, _, _, _⟩ := hO _ (List.mem_of_getElem? hx)
    simp only at o1
    rw [valE_go hx, List.take_add_one, hx]
    simp only [Option.toList_some, List.mem_append, List.mem_singleton, Prod.mk.injEq]
    by_cases e : y = (i : Int)
    · rw [if_pos e]
      refine ⟨by omega, fun j hj => ?_, ?_⟩
      · rcases hj with hj | ⟨hj, _⟩
        · have := h2 j hj; omega
        · rw [← hj, Int.toNat_natCast]; omega
      · rcases Int.le_total (valE L d E i k) (E x.toNat + d x.toNat) with hm | hm
        · rw [Int.max_eq_right hm]
          exact .inr ⟨x.toNat, .inr ⟨by omega, e.symm⟩, rfl⟩
        · rw [Int.max_eq_left hm]
          rcases h3 with h3 | ⟨j, hj, h3⟩
          · exact .inl h3
          · exact .inr ⟨j, .inl hj, h3⟩
    · rw [if_neg e]
      refine ⟨h1, fun j hj => ?_, ?_⟩
      · rcases hj with hj | ⟨_, hj⟩
        · exact h2 j hj
        · exact (e hj.symm).elim
      · rcases h3 with h3 | ⟨j, hj, h3⟩
        · exact .inl h3
        · exact .inr ⟨j, .inl hj, h3⟩
theorem valE_congr {n : Nat} {L : El} (hO : Ok n L) (d E F : Tm) (i : Nat) (h : ∀ j, ed L j i → E j = F j) : ∀ k, k ≤ L.length → valE L d E i k = valE L d F i k
  | 0, _ => rfl
  | k + 1, hk => by
    have ih := valE_congr hO d E F i h k (by omega)
    obtain ⟨⟨x, y⟩, hx⟩ : ∃ p, L[k]? = some p := ⟨_, List.getElem?_eq_getElem (by omega)⟩
    obtain ⟨o1, _, _, _⟩ := hO _ (List.mem_of_getElem? hx)
    simp only at o1
    rw [valE_go hx, valE_go hx, ih]
    by_cases e : y = (i : Int)
    · rw [if_pos e, if_pos e, h x.toNat]
      unfold ed
      rw [show ((x.toNat : Nat) : Int) = x from by omega, ← e]
      exact List.mem_of_getElem? hx
    · rw [if_neg e, if_neg e]
/-- the earliest times, the first t of the row are done -/
def EK (L : El) (d : Tm) (row : List Nat) : Nat → Tm
  | 0 => fun _ => 0
  | t + 1 => match row[t]? with
    | some i => upd (EK L d row t) i (valE L d (EK L d row t) i L.length)
    | none => EK L d row t
theorem EK_go {L : El} {d : Tm} {row : List Nat} {t i : Nat} (h : row[t]? = some i) : EK L d row (t + 1) = upd (EK L d row t) i (valE L d (EK L d row t) i L.length) := by simp [EK, h]
theorem EK_keep {n : Nat} {L : El} {d : Tm} {row : List Nat} (hT : Topo n L row) {s i : Nat} (hs : row[s]? = some i) : ∀ t, s < t → t ≤ n → EK L d row t i = EK L d row (s + 1) i
  | 0, h, _ => absurd h (by omega)
  | t + 1, h, ht => by
    by_cases e : s = t
    · rw [e]
    · have ih := EK_keep (d := d) hT hs t (by omega) (by omega)
      obtain ⟨j, hj⟩ : ∃ j, row[t]? = some j := ⟨_, List.getElem?_eq_getElem (by rw [hT.len]; omega)⟩
      rw [EK_go hj, upd_other _ _ (fun e2 => e (hT.inj s t i hs (by rw [e2]; exact hj))), ih]
theorem EK_at {n : Nat} {L : El} {d : Tm} {row : List Nat} (hO : Ok n L) (hT : Topo n L row) {t i : Nat} (ht : row[t]? = some i) : EK L d row n i = valE L d (EK L d row n) i L.length := by
  have htn : t < n := by have := (List.getElem?_eq_some_iff.1 ht).1; rw [hT.len] at this; exact this
  rw [EK_keep hT ht n htn (Nat.le_refl _), EK_go ht, upd_same]
  refine valE_congr hO d _ _ i (fun j hj => ?_) _ (Nat.le_refl _)
  obtain ⟨s, hs, hs2⟩ := hT.pred t i j ht hj
  rw [EK_keep hT hs2 t hs (by omega), EK_keep hT hs2 n (by omega) (Nat.le_refl _)]
theorem EK_is {n : Nat} {L : El} {d : Tm} {row : List Nat} (hO : Ok n L) (hT : Topo n L row) : IsE n L d (EK L d row n) := by
  have hat : ∀ i, i < n → EK L d row n i = valE L d (EK L d row n) i L.length := fun i hi => by
    obtain ⟨t, ht, e⟩ := List.getElem_of_mem (hT.mem i hi)
    exact EK_at hO hT (by rw [List.getElem?_eq_getElem ht, e])
  have hsp := fun i => valE_spec hO d (EK L d row n) i L.length (Nat.le_refl _)
  refine ⟨fun i hi => ?_, fun i j h => ?_, fun i hi => ?_⟩
  · rw [hat i hi]; exact (hsp i).1
  · rw [hat i (hO.ed h).2]
    exact (hsp i).2.1 j (by rw [List.take_length]; exact h)
  · rcases (hsp i).2.2 with h | ⟨j, hj, h⟩
    · exact .inl (by rw [hat i hi]; exact h)
    · exact .inr ⟨j, by rw [List.take_length] at hj; exact hj, by rw [← h]; exact hat i hi⟩
/-- the span, the first t of the row are done -/
def SK (d E : Tm) (row : List Nat) : Nat → Int
  | 0 => 0
  | t + 1 => match row[t]? with
    | some i => max (SK d E row t) (E i + d i)
    | none => SK d E row t
theorem SK_go {d E : Tm} {row : List Nat} {t i : Nat} (h : row[t]? = some i) : SK d E row (t + 1) = max (SK d E row t) (E i + d i) := by simp [SK, h]
theorem SK_spec {d E : Tm} {row : List Nat} : ∀ t, 0 ≤ SK d E row t ∧ (∀ s i, s < t → row[s]? = some i → E i + d i ≤ SK d E row t) ∧ (SK d E row t = 0 ∨ ∃ s i, s < t ∧ row[s]? = some i ∧ E i + d i = SK d E row t)
  | 0 => ⟨Int.le_refl _, fun s i h => absurd h (by omega), .inl rfl⟩
  | t + 1 => by
    obtain ⟨h1, h2, h3⟩ := SK_spec (d := d) (E := E) (row := row) t
    cases hr : row[t]? with
    | none =>
      have e : SK d E row (t + 1) = SK d E row t := by simp [SK, hr]
      rw [e]
      refine ⟨h1, fun s i hs hi => ?_, ?_⟩
      · by_cases es : s = t
        · rw [es, hr] at hi; cases hi
        · exact h2 s i (by omega) hi
      · rcases h3 with h3 | ⟨s, i, a, b, c⟩
        · exact .inl h3
        · exact .inr ⟨s, i, by omega, b, c⟩
    | some j =>
      rw [SK_go hr]
      refine ⟨by omega, fun s i hs hi => ?_, ?_⟩
      · by_cases es : s = t
        · rw [es, hr] at hi
          obtain rfl := Option.some.inj hi
          omega
        · have := h2 s i (by omega) hi; omega
      · rcases Int.le_total (SK d E row t) (E j + d j) with hm | hm
        · rw [Int.max_eq_right hm]
          exact .inr ⟨t, j, by omega, hr, rfl⟩
        · rw [Int.max_eq_left hm]
          rcases h3 with h3 | ⟨s, i, a, b, c⟩
          · exact .inl h3
          · exact .inr ⟨s, i, by omega, b, c⟩
theorem SK_is {n : Nat} {L : El} {d E : Tm} {row : List Nat} (hT : Topo n L row) : IsS n d E (SK d E row n) := by
  obtain ⟨h1, h2, h3⟩ := SK_spec (d := d) (E := E) (row := row) n
  refine ⟨h1, fun i hi => ?_, ?_⟩
  · obtain ⟨t, ht, e⟩ := List.getElem_of_mem (hT.mem i hi)
    exact h2 t i (by rw [hT.len] at ht; exact ht) (by rw [List.getElem?_eq_getElem ht, e])
  · rcases h3 with h3 | ⟨s, i, a, b, c⟩
    · exact .inl h3
    · exact .inr ⟨i, hT.lt i (List.mem_of_getElem? b), c⟩
theorem IsS.uniq {n : Nat} {d E X : Tm} {S R : Int} (h : IsS n d E S) (g : IsS n d X R) (e : ∀ i, i < n → E i = X i) (hd : ∀ i, i < n → 0 ≤ E i + d i) : S = R := by
  have a : S ≤ R := by
    rcases h.eq with h1 | ⟨i, hi, h1⟩
    · rw [h1]; exact g.pos
    · have := g.ge i hi; rw [← e i hi] at this; omega
  have b : R ≤ S := by
    rcases g.eq with h1 | ⟨i, hi, h1⟩
    · rw [h1]; exact h.pos
    · have := h.ge i hi; rw [e i hi] at this; omega
  omega
/-- the latest end of a thing by the first k edges -/
def valL (L : El) (S : Int) (T : Tm) (i : Nat) : Nat → Int
  | 0 => S
  | k + 1 => match L[k]? with
    | some (x, y) => if x = (i : Int) then min (valL L S T i k) (T y.toNat) else valL L S T i k
    | none => valL L S T i k
theorem valL_go {L : El} {k : Nat} {x y : Int} (h : L[k]? = some (x, y)) (S : Int) (T : Tm) (i : Nat) : valL L S T i (k + 1) = if x = (i : Int) then min (valL L S T i k) (T y.toNat) else valL L S T i k := by simp [valL, h]
theorem valL_spec {n : Nat} {L : El} (hO : Ok n L) (S : Int) (T : Tm) (i : Nat) : ∀ k, k ≤ L.length → valL L S T i k ≤ S ∧ (∀ j : Nat, ((i : Int), (j : Int)) ∈ L.take k → valL L S T i k ≤ T j) ∧ (valL L S T i k = S ∨ ∃ j : Nat, ((i : Int), (j : Int)) ∈ L.take k ∧ valL L S T i k = T j)
  | 0, _ => ⟨Int.le_refl _, fun j hj => by simp at hj, .inl rfl⟩
  | k + 1, hk => by
    obtain ⟨h1, h2, h3⟩ := valL_spec hO S T i k (by omega)
    obtain ⟨⟨x, y⟩, hx⟩ : ∃ p, L[k]? = some p := ⟨_, List.getElem?_eq_getElem (by omega)⟩
    obtain ⟨_, _, o1, _⟩ := hO _ (List.mem_of_getElem? hx)
    simp only at o1
    rw [valL_go hx, List.take_add_one, hx]
    simp only [Option.toList_some, List.mem_append, List.mem_singleton, Prod.mk.injEq]
    by_cases e : x = (i : Int)
    · rw [if_pos e]
      refine ⟨by omega, fun j hj => ?_, ?_⟩
      · rcases hj with hj | ⟨_, hj⟩
        · have := h2 j hj; omega
        · rw [← hj, Int.toNat_natCast]; omega
      · rcases Int.le_total (valL L S T i k) (T y.toNat) with hm | hm
        · rw [Int.min_eq_left hm]
          rcases h3 with h3 | ⟨j, hj, h3⟩
          · exact .inl h3
          · exact .inr ⟨j, .inl hj, h3⟩
        · rw [Int.min_eq_right hm]
          exact .inr ⟨y.toNat, .inr ⟨e.symm, by omega⟩, rfl⟩
    · rw [if_neg e]
      refine ⟨h1, fun j hj => ?_, ?_⟩
      · rcases hj with hj | ⟨hj, _⟩
        · exact h2 j hj
        · exact (e hj.symm).elim
      · rcases h3 with h3 | ⟨j, hj, h3⟩
        · exact .inl h3
        · exact .inr ⟨j, .inl hj, h3⟩
theorem valL_congr {n : Nat} {L : El} (hO : Ok n L) (S : Int) (T U : Tm) (i : Nat) (h : ∀ j, ed L i j → T j = U j) : ∀ k, k ≤ L.length → valL L S T i k = valL L S U i k
  | 0, _ => rfl
  | k + 1, hk => by
    have ih := valL_congr hO S T U i h k (by omega)
    obtain ⟨⟨x, y⟩, hx⟩ : ∃ p, L[k]? = some p := ⟨_, List.getElem?_eq_getElem (by omega)⟩
    obtain ⟨_, _, o1, _⟩ := hO _ (List.mem_of_getElem? hx)
    simp only at o1
    rw [valL_go hx, valL_go hx, ih]
    by_cases e : x = (i : Int)
    · rw [if_pos e, if_pos e, h y.toNat]
      unfold ed
      rw [show ((y.toNat : Nat) : Int) = y from by omega, ← e]
      exact List.mem_of_getElem? hx
    · rw [if_neg e, if_neg e]
/-- the latest times, the last t of the row are done -/
def LK (L : El) (d : Tm) (S : Int) (row : List Nat) : Nat → Tm
  | 0 => fun _ => 0
  | t + 1 => match row[row.length - 1 - t]? with
    | some i => upd (LK L d S row t) i (valL L S (LK L d S row t) i L.length - d i)
    | none => LK L d S row t
theorem LK_go {L : El} {d : Tm} {S : Int} {row : List Nat} {t i : Nat} (h : row[row.length - 1 - t]? = some i) : LK L d S row (t + 1) = upd (LK L d S row t) i (valL L S (LK L d S row t) i L.length - d i) := by simp [LK, h]
theorem LK_keep {n : Nat} {L : El} {d : Tm} {S : Int} {row : List Nat} (hT : Topo n L row) {s i : Nat} (hsn : s < n) (hs : row[n - 1 - s]? = some i) : ∀ t, s < t → t ≤ n → LK L d S row t i = LK L d S row (s + 1) i
  | 0, h, _ => absurd h (by omega)
  | t + 1, h, ht => by
    by_cases e : s = t
    · rw [e]
    · have ih := LK_keep (d := d) (S := S) hT hsn hs t (by omega) (by omega)
      obtain ⟨j, hj⟩ : ∃ j, row[row.length - 1 - t]? = some j := ⟨_, List.getElem?_eq_getElem (by rw [hT.len]; omega)⟩
      rw [LK_go hj, upd_other _ _ (fun e2 => ?_), ih]
      rw [e2] at hs
      have := hT.inj _ _ j hs hj
      rw [hT.len] at this
      omega
theorem LK_at {n : Nat} {L : El} {d : Tm} {S : Int} {row : List Nat} (hO : Ok n L) (hT : Topo n L row) {t i : Nat} (htn : t < n) (ht : row[n - 1 - t]? = some i) : LK L d S row n i = valL L S (LK L d S row n) i L.length - d i := by
  have ht' : row[row.length - 1 - t]? = some i := by rw [hT.len]; exact ht
  rw [LK_keep hT htn ht n htn (Nat.le_refl _), LK_go ht', upd_same]
  congr 1
  refine valL_congr hO S _ _ i (fun j hj => ?_) _ (Nat.le_refl _)
  obtain ⟨u, hu, e⟩ := List.getElem_of_mem (hT.mem j (hO.ed hj).2)
  have hu2 : row[u]? = some j := by rw [List.getElem?_eq_getElem hu, e]
  obtain ⟨s, hs, hs2⟩ := hT.pred u j i hu2 hj
  have := hT.inj s _ i hs2 ht
  rw [hT.len] at hu
  have hu3 : row[n - 1 - (n - 1 - u)]? = some j := by rw [show n - 1 - (n - 1 - u) = u from by omega]; exact hu2
  rw [LK_keep hT (by omega) hu3 t (by omega) (by omega), LK_keep hT (by omega) hu3 n (by omega) (Nat.le_refl _)]
theorem LK_is {n : Nat} {L : El} {d : Tm} {S : Int} {row : List Nat} (hO : Ok n L) (hT : Topo n L row) : IsL n L d S (LK L d S row n) := by
  have hat : ∀ i, i < n → LK L d S row n i = valL L S (LK L d S row n) i L.length - d i := fun i hi => by
    obtain ⟨t, ht, e⟩ := List.getElem_of_mem (hT.mem i hi)
    rw [hT.len] at ht
    exact LK_at (t := n - 1 - t) hO hT (by omega) (by rw [show n - 1 - (n - 1 - t) = t from by omega, List.getElem?_eq_getElem (by rw [hT.len]; exact ht), e])
  have hsp := fun i => valL_spec hO S (LK L d S row n) i L.length (Nat.le_refl _)
  refine ⟨fun i hi => ?_, fun i k h => ?_, fun i hi => ?_⟩
  · rw [hat i hi]; have := (hsp i).1; omega
  · rw [hat i (hO.ed h).1]
    have := (hsp i).2.1 k (by rw [List.take_length]; exact h)
    omega
  · rcases (hsp i).2.2 with h | ⟨k, hk, h⟩
    · exact .inl (by rw [hat i hi, h])
    · exact .inr ⟨k, by rw [List.take_length] at hk; exact hk, by rw [← h]; exact hat i hi⟩
end Go.Proofs.Ytfjoakhcgpckgaa.Gr
