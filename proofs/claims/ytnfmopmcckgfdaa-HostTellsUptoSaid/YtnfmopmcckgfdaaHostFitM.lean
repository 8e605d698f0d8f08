/- Plain: which hosts fit. -/
import Derived.Test.YtnfmopmcckgfdaaHostFree
import Derived.Test.YtnfmopmcckgfdaaNats
namespace Go.Proofs.Ytnfmopmcckgfdaa
open Go.ChangeShapes Go.WideShapes Go.ChangeAt Go.RowKit
set_option linter.unusedVariables false
open Tp
theorem amtF_zero {h : Hst} (e : amtF h = 0) : h.has.ok = true ∧ h.used.ok = true ∧ h.used.le h.has = true := by
  unfold amtF at e
  split at e
  · cases e
  rename_i a1
  split at e
  · cases e
  rename_i a2
  split at e
  · cases e
  rename_i a3
  exact ⟨show needB h.has.cpu h.has.mem h.has.gpu = true from by simpa using a1, show needB h.used.cpu h.used.mem h.used.gpu = true from by simpa using a2, show fitsB h.used.cpu h.used.mem h.used.gpu h.has.cpu h.has.mem h.has.gpu = true from by simpa using a3⟩
theorem hosts_each {L : List Hst} (e : hostsE L = 0) {i : Nat} {x : Hst} (hx : L[i]? = some x) : x.has.ok = true ∧ x.used.ok = true ∧ x.used.le x.has = true := by
  unfold hostsE at e
  split at e
  · cases e
  · have key : ∀ (L : List Hst) (S : List Bs), hostsF S L = 0 → ∀ (i : Nat) (x : Hst), L[i]? = some x → amtF x = 0 := by
      intro L
      induction L with
      | nil => intro S _ i x hx; simp at hx
      | cons y L ih =>
        intro S hS i x hx
        rw [hostsF] at hS
        split at hS
        · rename_i h2; exact absurd hS h2
        · rename_i h2
          have h2 : hostF S y = 0 := Decidable.byContradiction h2
          cases i with
          | zero =>
            simp at hx; subst hx
            unfold hostF at h2
            split at h2
            · cases h2
            split at h2
            · cases h2
            split at h2
            · cases h2
            split at h2
            · rename_i h3; exact absurd h2 h3
            · exact h2
          | succ i => exact ih _ hS i x (by simpa using hx)
    exact amtF_zero (key L [] e i x hx)
theorem left_ok {h : Hst} (h1 : h.has.ok = true) (h2 : h.used.ok = true) (h3 : h.used.le h.has = true) : h.left.ok = true := by
  obtain ⟨⟨a1, a2⟩, ⟨a3, a4⟩, a5, a6⟩ := needB_yes h1
  obtain ⟨⟨b1, b2⟩, ⟨b3, b4⟩, b5, b6⟩ := needB_yes h2
  obtain ⟨c1, c2, c3⟩ := fitsB_yes h3
  unfold Amt.ok Hst.left needB
  simp only [decide_eq_true_eq]
  omega
/-- does this host hold it? -/
def hit (x : Ask) (A : Amt) (h : Hst) : Bool := x.ev (atomB h) && A.le h.left
def hitAt (x : Ask) (A : Amt) (L : List Hst) (i : Nat) : Bool := match L[i]? with | some h => hit x A h | none => false
theorem hitAt_eq {x : Ask} {A : Amt} {L : List Hst} {i : Nat} {h : Hst} (e : L[i]? = some h) : hitAt x A L i = hit x A h := by unfold hitAt; rw [e]
/-- the hosts that fit, of the first m -/
def fitL (x : Ask) (A : Amt) (L : List Hst) (m : Nat) : List Nat := Gr.yes (hitAt x A L) m
theorem fitL_yes {x : Ask} {A : Amt} {L : List Hst} {i : Nat} {h : Hst} (e : L[i]? = some h) (hh : hit x A h = true) : fitL x A L (i + 1) = fitL x A L i ++ [i] := by
  show (if hitAt x A L i then _ else _) = _
  rw [hitAt_eq e, hh]; rfl
theorem fitL_no {x : Ask} {A : Amt} {L : List Hst} {i : Nat} {h : Hst} (e : L[i]? = some h) (hh : hit x A h = false) : fitL x A L (i + 1) = fitL x A L i := by
  show (if hitAt x A L i then _ else _) = _
  rw [hitAt_eq e, hh]; rfl
theorem fitL_len (x : Ask) (A : Amt) (L : List Hst) (m : Nat) : (fitL x A L m).length ≤ m := Gr.yes_length _ m
theorem fitL_lt {x : Ask} {A : Amt} {L : List Hst} {m i : Nat} (h : i ∈ fitL x A L m) : i < m := (Gr.mem_yes.1 h).1
def amtE (A : Amt) : Int := needE A.cpu A.mem A.gpu
/-- what Fit tells -/
def fitE (x : Ask) (A : Amt) (L : List Hst) : Int := if hostsE L ≠ 0 then hostsE L else if x.fault ≠ 0 then x.fault else amtE A
def fitR (x : Ask) (A : Amt) (L : List Hst) : List Nat := if fitE x A L = 0 then fitL x A L L.length else []
theorem amtE_ok {A : Amt} (h : amtE A = 0) : A.ok = true := by
  unfold amtE needE at h
  unfold Amt.ok
  split at h
  · assumption
  · cases h
theorem fits_left {A : Amt} {h : Hst} (hA : A.ok = true) (h1 : h.has.ok = true) (h2 : h.used.ok = true) (h3 : h.used.le h.has = true) : bothB A.cpu A.mem A.gpu h.left.cpu h.left.mem h.left.gpu = true := by
  have h4 := left_ok h1 h2 h3
  unfold bothB
  rw [show needB A.cpu A.mem A.gpu = true from hA, show needB h.left.cpu h.left.mem h.left.gpu = true from h4]
  rfl
/-- a host in memory, as a value -/
theorem HostCells.val {w : World} {h : Hst} {b off : Nat} (hc : HostCells w h b off) : ∃ la lc, HostV w h (.agg #[.string (bts h.name), .slice la h.labels.length lc, .int .i64 h.has.cpu, .int .i64 h.has.mem, .int .i64 h.has.gpu, .int .i64 h.used.cpu, .int .i64 h.used.mem, .int .i64 h.used.gpu]) ∧ w.cell? ⟨b, off, none⟩ = some (.string (bts h.name)) ∧ w.cell? ⟨b, off + 1, none⟩ = some (.slice la h.labels.length lc) ∧ w.cell? ⟨b, off + 2, none⟩ = some (.int .i64 h.has.cpu) ∧ w.cell? ⟨b, off + 3, none⟩ = some (.int .i64 h.has.mem) ∧ w.cell? ⟨b, off + 4, none⟩ = some (.int .i64 h.has.gpu) ∧ w.cell? ⟨b, off + 5, none⟩ = some (.int .i64 h.used.cpu) ∧ w.cell? ⟨b, off + 6, none⟩ = some (.int .i64 h.used.mem) ∧ w.cell? ⟨b, off + 7, none⟩ = some (.int .i64 h.used.gpu) := by
  obtain ⟨la, lc, h1, h2, h3, h4, h5⟩ := hc
  exact ⟨la, lc, ⟨la, _, lc, rfl, rfl, h2, h3, h4⟩, h1 0 _ rfl, h1 1 _ rfl, h1 2 _ rfl, h1 3 _ rfl, h1 4 _ rfl, h1 5 _ rfl, h1 6 _ rfl, h1 7 _ rfl⟩
end Go.Proofs.Ytnfmopmcckgfdaa
