/- Contracts: a copy of a row of hosts; a copy of a row of labels. -/
import Derived.Test.YtnfmopmcckgfdaaHostCheck
import Derived.Test.YtnfmopmcckgfdaaTop
import Derived.Maps.AppendAt
import Derived.Lib.SliceRun
import Derived.Deep.AppendLies
import Derived.Deep.MidRow
namespace Go.Proofs.Ytnfmopmcckgfdaa
open Go.ChangeShapes Go.WideShapes Go.ChangeAt Go.RowKit
set_option linter.unusedVariables false
open Tp
/-- labels in a row, in a block of p -/
def LabsP (p : Nat → Prop) (w : World) (a : Option Addr) (L : List Lab) : Prop := 0 < L.length → ∃ b off, a = some ⟨b, off, none⟩ ∧ p b ∧ b < w.heap.size ∧ LabsAt w b off L
theorem LabsP.toL {p : Nat → Prop} {w : World} {a : Option Addr} {L : List Lab} (h : LabsP p w a L) : Labs w a L := fun hl => by
  obtain ⟨b, off, e, _, h1, h2⟩ := h hl
  exact ⟨b, off, e, h1, h2⟩
theorem LabsP.stays {p q : Nat → Prop} {w w' : World} {a : Option Addr} {L : List Lab} (h : LabsP p w a L) (hpq : ∀ b, p b → b < w.heap.size → q b) (hs : w.heap.size ≤ w'.heap.size) (he : ∀ b, p b → b < w.heap.size → w'.heap[b]? = w.heap[b]?) : LabsP q w' a L := fun hl => by
  obtain ⟨b, off, e, hp, h1, h2⟩ := h hl
  refine ⟨b, off, e, hpq b hp h1, by omega, fun i x hi => ?_⟩
  obtain ⟨g0, g1⟩ := h2 i x hi
  exact ⟨(cell_of_block (p := ⟨b, _, none⟩) (he b hp h1)).trans g0, (cell_of_block (p := ⟨b, _, none⟩) (he b hp h1)).trans g1⟩
/-- cells that read as hosts, one behind the other; their labels in blocks of p -/
def HRow (p : Nat → Prop) (w : World) : List Hst → List Value → Prop
  | [], xs => xs = []
  | h :: L, xs => ∃ la lc rest, xs = hcs h la lc ++ rest ∧ h.labels.length ≤ lc ∧ h.labels.length ≤ 9223372036854775807 ∧ LabsP p w la h.labels ∧ HSz h ∧ HRow p w L rest
theorem hcs_len (h : Hst) (la : Option Addr) (lc : Nat) : (hcs h la lc).length = 8 := rfl
theorem HRow.len {p : Nat → Prop} {w : World} : ∀ {L : List Hst} {xs : List Value}, HRow p w L xs → xs.length = L.length * 8
  | [], xs, h => by rw [HRow] at h; subst h; rfl
  | x :: L, xs, h => by
    rw [HRow] at h
    obtain ⟨la, lc, rest, rfl, _, _, _, _, h2⟩ := h
    rw [List.length_append, hcs_len, HRow.len h2, List.length_cons]; omega
theorem HRow.one {p : Nat → Prop} {w : World} : ∀ {L : List Hst} {xs : List Value}, HRow p w L xs → ∀ u ∈ xs, u.oneCell' = true
  | [], xs, h, u, hu => by rw [HRow] at h; subst h; cases hu
  | x :: L, xs, h, u, hu => by
    rw [HRow] at h
    obtain ⟨la, lc, rest, rfl, _, _, _, _, h2⟩ := h
    rcases List.mem_append.1 hu with hu | hu
    · unfold hcs at hu
      simp at hu
      rcases hu with rfl | rfl | rfl | rfl | rfl | rfl | rfl | rfl <;> rfl
    · exact HRow.one h2 u hu
theorem HRow.stays {p q : Nat → Prop} {w w' : World} (hpq : ∀ b, p b → b < w.heap.size → q b) (hs : w.heap.size ≤ w'.heap.size) (he : ∀ b, p b → b < w.heap.size → w'.heap[b]? = w.heap[b]?) : ∀ {L : List Hst} {xs : List Value}, HRow p w L xs → HRow q w' L xs
  | [], xs, h => by rw [HRow] at h ⊢; exact h
  | x :: L, xs, h => by
    rw [HRow] at h ⊢
    obtain ⟨la, lc, rest, e, h1, h3, h4, h5, h2⟩ := h
    exact ⟨la, lc, rest, e, h1, h3, h4.stays hpq hs he, h5, HRow.stays hpq hs he h2⟩
/-- the cells lie: the hosts lie -/
theorem HRow.cells {p : Nat → Prop} {w : World} {b : Nat} : ∀ {L : List Hst} {xs : List Value} {off : Nat}, HRow p w L xs → (∀ j u, xs[j]? = some u → w.cell? ⟨b, off + j, none⟩ = some u) → ∀ i x, L[i]? = some x → HostCells w x b (off + i * 8)
  | [], xs, off, h, hc, i, x, hx => by simp at hx
  | y :: L, xs, off, h, hc, i, x, hx => by
    rw [HRow] at h
    obtain ⟨la, lc, rest, rfl, h1, h3, h4, h5, h2⟩ := h
    cases i with
    | zero =>
      obtain rfl : y = x := by simpa using hx
      refine ⟨la, lc, fun j u hj => ?_, h1, h3, h4.toL, h5⟩
      rw [Nat.zero_mul, Nat.add_zero]
      exact hc j u (by rw [List.getElem?_append_left (List.getElem?_eq_some_iff.1 hj).1]; exact hj)
    | succ i =>
      have := HRow.cells (off := off + 8) h2 (fun j u hj => by
        have := hc (8 + j) u (by rw [List.getElem?_append_right (by rw [hcs_len]; omega), hcs_len, Nat.add_sub_cancel_left]; exact hj)
        rwa [← Nat.add_assoc] at this) i x (by simpa using hx)
      rwa [show off + (i + 1) * 8 = off + 8 + i * 8 from by omega]
/-- hosts that lie: their cells in a row -/
theorem hosts_row {w : World} {b : Nat} : ∀ {L : List Hst} {off : Nat}, (∀ i x, L[i]? = some x → HostCells w x b (off + i * 8)) → ∃ xs, HRow (fun _ => True) w L xs ∧ ∀ j u, xs[j]? = some u → w.cell? ⟨b, off + j, none⟩ = some u
  | [], off, h => ⟨[], rfl, fun j u hj => by simp at hj⟩
  | y :: L, off, h => by
    obtain ⟨la, lc, hc, h1, h3, h4, h5⟩ := h 0 y rfl
    obtain ⟨xs, hr, hx⟩ := hosts_row (L := L) (off := off + 8) (fun i x hi => by
      have := h (i + 1) x (by simpa using hi)
      rwa [show off + (i + 1) * 8 = off + 8 + i * 8 from by omega] at this)
    refine ⟨hcs y la lc ++ xs, ⟨la, lc, xs, rfl, h1, h3, fun hl => ?_, h5, hr⟩, fun j u hj => ?_⟩
    · obtain ⟨b', off', e, g1, g2⟩ := h4 hl
      exact ⟨b', off', e, trivial, g1, g2⟩
    · by_cases hj8 : j < 8
      · rw [List.getElem?_append_left (by rw [hcs_len]; exact hj8)] at hj
        have := hc j u hj
        rwa [Nat.zero_mul, Nat.add_zero] at this
      · rw [List.getElem?_append_right (by rw [hcs_len]; omega), hcs_len] at hj
        have := hx (j - 8) u hj
        rwa [show off + 8 + (j - 8) = off + j from by omega] at this
theorem infoHost : (Try.prog.info? 30).map (fun i => (i.zero, i.size, i.bytes)) = some (some (.agg #[.string ⟨#[]⟩, .slice none 0 0, .int .i64 0, .int .i64 0, .int .i64 0, .int .i64 0, .int .i64 0, .int .i64 0]), 8, 88) := by kernel_rfl
set_option maxRecDepth 20000 in
set_option maxHeartbeats 1600000 in
theorem cloneH_nil (cap : Nat) (w : World) : Calls Try.prog 53 #[.slice none 0 cap] w fun e w' => e = .returned (.slice none 0 0) ∧ w' = w := by
  have hE := Lib.run_eql_slice_nil (P := Try.prog) w 22 30 none 0 cap 0 0 Try.underlying22
  go_enter Try.func53, Try.ntmps53
  go_wp2_with fail
  go_ret
  exact ⟨rfl, rfl⟩
set_option maxRecDepth 20000 in
set_option maxHeartbeats 1600000 in
theorem cloneH_some (ad : Addr) (xs : List Value) (n cap : Nat) (w : World) (hn : xs.length = n * 8) (hl : n ≤ 101) (h1 : ∀ u ∈ xs, u.oneCell' = true) (hnw : ∀ j u, xs[j]? = some u → w.cell? (ad.add j) = some u) (hlt : 0 < n → ad.block < w.heap.size) : Calls Try.prog 53 #[.slice (some ad) n cap] w fun e w' => ∃ v, e = .returned v ∧ w'.ownsRow w.heap.size 30 8 v n xs ∧ Below w.heap.size w w' := by
  obtain ⟨i0, hi, hz0, hz1, hz2⟩ := info_parts infoHost
  have hE := Lib.run_eql_slice_nil (P := Try.prog) w 22 30 (some ad) n cap 0 0 Try.underlying22
  have HLEN := Lib.hid hn
  have H1 := Lib.hid h1
  have HNW : Hid (∀ j u, xs[j]? = some u → (w.alloc (.cells #[] 30)).cell? (ad.add j) = some u) := Lib.hid (fun j u hu => by
    have hj : j < xs.length := (List.getElem?_eq_some_iff.1 hu).1
    have := hlt (by omega)
    have hb : Below w.heap.size w (w.alloc (.cells #[] 30)) := (Below.refl _ _).alloc (Nat.le_refl _) _
    exact (hb.cell (p := ad.add j) (by unfold Addr.add; split <;> exact this)).trans (hnw j u hu))
  clear hnw hlt hn h1
  go_enter Try.func53, Try.ntmps53
  have HW1 := Lib.hid (show Below w.heap.size w (w.alloc (.cells #[] 30)) from (Below.refl _ _).alloc (Nat.le_refl _) _)
  have HMD := Lib.hid (World.ownsRow_made (e := 30) (size := 8) w #[] 0 (Nat.le_refl w.heap.size) (Nat.zero_le _) rfl)
  go_wp2_with (at_builtin; refine wpList_append_own_at _ (by rfl) _ _ 22 (by rfl) w.heap.size 30 i0 (.agg #[.string ⟨#[]⟩, .slice none 0 0, .int .i64 0, .int .i64 0, .int .i64 0, .int .i64 0, .int .i64 0, .int .i64 0]) 8 88 Try.underlying22 hi hz0 hz1 hz2 (by rfl) (by decide) (.slice (some ⟨w.heap.size, 0, none⟩) 0 0) 0 [] (by rfl) HMD.out ad n cap xs (by rfl) HLEN.out HNW.out H1.out (by unfold maxLen; omega) (by omega) (by simp) ?_; intro v' w1 hown1 hgrow1 _ _; simp only [Nat.zero_add, List.nil_append] at hown1; have HB1 := Lib.hid (show Below w.heap.size w w1 from HW1.out.grown hgrow1 HW1.out.size (fun k hk => by simp [Value.ownBlock] at hk; omega)); have HO := Lib.hid hown1; clear hown1 hgrow1)
  go_ret
  exact ⟨_, rfl, HO.out, HB1.out⟩
theorem cloneH_any (L : List Hst) (a : Option Addr) (n cap : Nat) (w : World) (hn : n = L.length) (hl : n ≤ 101) (hL : Hosts w a L) : Calls Try.prog 53 #[.slice a n cap] w fun e w' => ∃ v xs, e = .returned v ∧ w'.ownsRow w.heap.size 30 8 v n xs ∧ HRow (fun b => b < w.heap.size) w' L xs ∧ Below w.heap.size w w' := by
  by_cases hp : 0 < n
  · obtain ⟨b, off, rfl, hb, hc⟩ := hL (by omega)
    obtain ⟨xs, hr, hx⟩ := hosts_row hc
    have h8 : xs.length = n * 8 := by rw [hr.len, hn]
    refine Calls.mono (cloneH_some ⟨b, off, none⟩ xs n cap w h8 hl hr.one (fun j u hj => by rw [Addr.add_mid]; exact hx j u hj) (fun _ => hb)) ?_
    rintro e w' ⟨v, rfl, ho, hbel⟩
    exact ⟨v, xs, rfl, ho, hr.stays (fun b _ hlt => hlt) hbel.size (fun b _ hlt => hbel.block b hlt), hbel⟩
  · obtain rfl : n = 0 := by omega
    obtain rfl : L = [] := List.eq_nil_of_length_eq_zero hn.symm
    cases a with
    | none =>
      refine Calls.mono (cloneH_nil cap w) ?_
      rintro e w' ⟨rfl, rfl⟩
      exact ⟨_, [], rfl, World.ownsRow_nil _ _ _ _, rfl, Below.refl _ _⟩
    | some ad =>
      refine Calls.mono (cloneH_some ad [] 0 cap w rfl (by omega) (fun u hu => by cases hu) (fun j u hj => by simp at hj) (fun h => absurd h (by omega))) ?_
      rintro e w' ⟨v, rfl, ho, hbel⟩
      exact ⟨v, [], rfl, ho, rfl, hbel⟩
/-- labels as cells -/
def lbs (l : List Lab) : List Value := l.flatMap fun x => [.string (bts x.1), .string (bts x.2)]
theorem lbs_length (l : List Lab) : (lbs l).length = l.length * 2 := by
  induction l with
  | nil => rfl
  | cons x l ih => unfold lbs at *; rw [List.flatMap_cons, List.length_append, ih]; simp; omega
theorem lbs_at {l : List Lab} {i : Nat} {x : Lab} (h : l[i]? = some x) : (lbs l)[i * 2]? = some (.string (bts x.1)) ∧ (lbs l)[i * 2 + 1]? = some (.string (bts x.2)) := by
  induction l generalizing i with
  | nil => simp at h
  | cons y l ih =>
    unfold lbs at *
    rw [List.flatMap_cons]
    cases i with
    | zero => simp at h; subst h; exact ⟨rfl, rfl⟩
    | succ i =>
      obtain ⟨g0, g1⟩ := ih (i := i) (by simpa using h)
      rw [show (i + 1) * 2 = i * 2 + 2 from by omega, show i * 2 + 2 + 1 = i * 2 + 1 + 2 from by omega]
      exact ⟨g0, g1⟩
theorem lbs_one (l : List Lab) : ∀ u ∈ lbs l, u.oneCell' = true := fun u hu => by
  unfold lbs at hu
  obtain ⟨s, _, h⟩ := List.mem_flatMap.1 hu
  simp at h
  rcases h with rfl | rfl <;> rfl
theorem labs_news {w : World} {b off : Nat} {l : List Lab} (h : LabsAt w b off l) : ∀ j u, (lbs l)[j]? = some u → w.cell? ⟨b, off + j, none⟩ = some u := fun j u hu => by
  have hj : j < l.length * 2 := by have := (List.getElem?_eq_some_iff.1 hu).1; rwa [lbs_length] at this
  obtain ⟨i, r, hr, rfl⟩ : ∃ i r, r < 2 ∧ j = i * 2 + r := ⟨j / 2, j % 2, by omega, by omega⟩
  have hi : i < l.length := by omega
  obtain ⟨h0, h1⟩ := h i _ (List.getElem?_eq_getElem hi)
  obtain ⟨g0, g1⟩ := lbs_at (List.getElem?_eq_getElem hi)
  rcases (show r = 0 ∨ r = 1 by omega) with rfl | rfl
  · rw [Nat.add_zero] at hu ⊢
    rw [g0] at hu; cases hu; exact h0
  · rw [g1] at hu; cases hu; rw [← Nat.add_assoc]; exact h1
theorem infoLabel : (Try.prog.info? 56).map (fun i => (i.zero, i.size, i.bytes)) = some (some (.agg #[.string ⟨#[]⟩, .string ⟨#[]⟩]), 2, 32) := by kernel_rfl
set_option maxRecDepth 20000 in
set_option maxHeartbeats 1600000 in
theorem cloneB_nil (cap : Nat) (w : World) : Calls Try.prog 54 #[.slice none 0 cap] w fun e w' => e = .returned (.slice none 0 0) ∧ w' = w := by
  have hE := Lib.run_eql_slice_nil (P := Try.prog) w 28 56 none 0 cap 0 0 Try.underlying28
  go_enter Try.func54, Try.ntmps54
  go_wp2_with fail
  go_ret
  exact ⟨rfl, rfl⟩
set_option maxRecDepth 20000 in
set_option maxHeartbeats 1600000 in
theorem cloneB_some (ad : Addr) (xs : List Value) (n cap : Nat) (w : World) (hn : xs.length = n * 2) (hl : n ≤ 101) (h1 : ∀ u ∈ xs, u.oneCell' = true) (hnw : ∀ j u, xs[j]? = some u → w.cell? (ad.add j) = some u) (hlt : 0 < n → ad.block < w.heap.size) : Calls Try.prog 54 #[.slice (some ad) n cap] w fun e w' => ∃ v, e = .returned v ∧ w'.ownsRow w.heap.size 56 2 v n xs ∧ Below w.heap.size w w' := by
  obtain ⟨i0, hi, hz0, hz1, hz2⟩ := info_parts infoLabel
  have hE := Lib.run_eql_slice_nil (P := Try.prog) w 28 56 (some ad) n cap 0 0 Try.underlying28
  have HLEN := Lib.hid hn
  have H1 := Lib.hid h1
  have HNW : Hid (∀ j u, xs[j]? = some u → (w.alloc (.cells #[] 56)).cell? (ad.add j) = some u) := Lib.hid (fun j u hu => by
    have hj : j < xs.length := (List.getElem?_eq_some_iff.1 hu).1
    have := hlt (by omega)
    have hb : Below w.heap.size w (w.alloc (.cells #[] 56)) := (Below.refl _ _).alloc (Nat.le_refl _) _
    exact (hb.cell (p := ad.add j) (by unfold Addr.add; split <;> exact this)).trans (hnw j u hu))
  clear hnw hlt hn h1
  go_enter Try.func54, Try.ntmps54
  have HW1 := Lib.hid (show Below w.heap.size w (w.alloc (.cells #[] 56)) from (Below.refl _ _).alloc (Nat.le_refl _) _)
  have HMD := Lib.hid (World.ownsRow_made (e := 56) (size := 2) w #[] 0 (Nat.le_refl w.heap.size) (Nat.zero_le _) rfl)
  go_wp2_with (at_builtin; refine wpList_append_own_at _ (by rfl) _ _ 28 (by rfl) w.heap.size 56 i0 (.agg #[.string ⟨#[]⟩, .string ⟨#[]⟩]) 2 32 Try.underlying28 hi hz0 hz1 hz2 (by rfl) (by decide) (.slice (some ⟨w.heap.size, 0, none⟩) 0 0) 0 [] (by rfl) HMD.out ad n cap xs (by rfl) HLEN.out HNW.out H1.out (by unfold maxLen; omega) (by omega) (by simp) ?_; intro v' w1 hown1 hgrow1 _ _; simp only [Nat.zero_add, List.nil_append] at hown1; have HB1 := Lib.hid (show Below w.heap.size w w1 from HW1.out.grown hgrow1 HW1.out.size (fun k hk => by simp [Value.ownBlock] at hk; omega)); have HO := Lib.hid hown1; clear hown1 hgrow1)
  go_ret
  exact ⟨_, rfl, HO.out, HB1.out⟩
/-- a copy of labels: a slice that reads as they do, in a new block -/
theorem cloneB_any (l : List Lab) (a : Option Addr) (n cap : Nat) (w : World) (hn : n = l.length) (hl : n ≤ 101) (hL : Labs w a l) : Calls Try.prog 54 #[.slice a n cap] w fun e w' => ∃ a' c', e = .returned (.slice a' n c') ∧ n ≤ c' ∧ c' ≤ 9223372036854775807 ∧ LabsP (fun b => w.heap.size ≤ b) w' a' l ∧ Below w.heap.size w w' := by
  have key : ∀ v w', w'.ownsRow w.heap.size 56 2 v n (lbs l) → ∃ a' c', v = .slice a' n c' ∧ n ≤ c' ∧ c' ≤ 9223372036854775807 ∧ LabsP (fun b => w.heap.size ≤ b) w' a' l := fun v w' ho => by
    obtain ⟨a', c', rfl, h1, h2, _⟩ := ownForm ho
    refine ⟨a', c', rfl, h1, h2, fun hp => ?_⟩
    obtain ⟨a2, c2, e, hv⟩ := IsRow.own (by decide) ho
    cases e
    obtain ⟨b, off, e2, hb, hc⟩ := hv (by rw [lbs_length]; omega)
    refine ⟨b, off, e2, ownBlock_ge ho (Nat.le_refl _) b (by rw [e2]; rfl), hb, fun i x hi => ?_⟩
    obtain ⟨g0, g1⟩ := lbs_at hi
    exact ⟨hc _ _ g0, by rw [Nat.add_assoc]; exact hc _ _ g1⟩
  by_cases hp : 0 < n
  · obtain ⟨b, off, rfl, hb, hc⟩ := hL (by omega)
    refine Calls.mono (cloneB_some ⟨b, off, none⟩ (lbs l) n cap w (by rw [lbs_length, hn]) hl (lbs_one l) (fun j u hj => by rw [Addr.add_mid]; exact labs_news hc j u hj) (fun _ => hb)) ?_
    rintro e w' ⟨v, rfl, ho, hbel⟩
    obtain ⟨a', c', rfl, h1, h2, h3⟩ := key v w' ho
    exact ⟨a', c', rfl, h1, h2, h3, hbel⟩
  · obtain rfl : n = 0 := by omega
    obtain rfl : l = [] := List.eq_nil_of_length_eq_zero hn.symm
    cases a with
    | none =>
      refine Calls.mono (cloneB_nil cap w) ?_
      rintro e w' ⟨rfl, rfl⟩
      exact ⟨none, 0, rfl, Nat.le_refl _, by omega, fun h => absurd h (by simp), Below.refl _ _⟩
    | some ad =>
      refine Calls.mono (cloneB_some ad [] 0 cap w rfl (by omega) (fun u hu => by cases hu) (fun j u hj => by simp at hj) (fun h => absurd h (by omega))) ?_
      rintro e w' ⟨v, rfl, ho, hbel⟩
      obtain ⟨a', c', rfl, h1, h2, h3⟩ := key v w' ho
      exact ⟨a', c', rfl, h1, h2, h3, hbel⟩
end Go.Proofs.Ytnfmopmcckgfdaa
