/- Plain facts: times that are raised, or lowered, until all is right. -/
import Derived.Test.YtfjoakhcgpckgaaPathFun
namespace Go.Proofs.Ytfjoakhcgpckgaa.Gr
/-- how far B lies under A, in all -/
def gap (A B : Tm) : Nat → Nat
  | 0 => 0
  | n + 1 => gap A B n + (A n - B n).toNat
theorem gap_same {A B A' B' : Tm} : ∀ n, (∀ i, i < n → A i - B i = A' i - B' i) → gap A B n = gap A' B' n
  | 0, _ => rfl
  | n + 1, h => by
    simp only [gap]
    rw [gap_same n fun i hi => h i (by omega), h n (by omega)]
theorem gap_up {A B : Tm} {i : Nat} {v : Int} (h1 : B i < v) (h2 : v ≤ A i) : ∀ n, i < n → gap A (upd B i v) n < gap A B n
  | 0, h => absurd h (by omega)
  | n + 1, h => by
    simp only [gap]
    by_cases e : i = n
    · subst e
      rw [upd_same, gap_same (A := A) (B := upd B i v) (A' := A) (B' := B) i fun j hj => by rw [upd_other _ _ (by omega)]]
      omega
    · have ih := gap_up h1 h2 n (by omega)
      rw [upd_other _ _ (fun e' => e e'.symm)]
      omega
theorem gap_down {A B : Tm} {i : Nat} {v : Int} (h1 : v < A i) (h2 : B i ≤ v) : ∀ n, i < n → gap (upd A i v) B n < gap A B n
  | 0, h => absurd h (by omega)
  | n + 1, h => by
    simp only [gap]
    by_cases e : i = n
    · subst e
      rw [upd_same, gap_same (A := upd A i v) (B := B) (A' := A) (B' := B) i fun j hj => by rw [upd_other _ _ (by omega)]]
      omega
    · have ih := gap_down h1 h2 n (by omega)
      rw [upd_other _ _ (fun e' => e e'.symm)]
      omega
/-- times on their way up -/
structure UpE (n : Nat) (E X : Tm) : Prop where
  pos : ∀ i, i < n → 0 ≤ X i
  le : ∀ i, i < n → X i ≤ E i
theorem UpE.upd {n : Nat} {L : El} {d E X : Tm} {i j : Nat} (h : UpE n E X) (hE : IsE n L d E) (hO : Ok n L) (hd : 0 ≤ d j) (he : ed L j i) : UpE n E (upd X i (X j + d j)) := by
  have hj := (hO.ed he).1
  have a := h.le j hj
  have b := hE.ge i j he
  have c := h.pos j hj
  exact ⟨fun k hk => by
    unfold Gr.upd
    split
    · omega
    · exact h.pos k hk, fun k hk => by
    unfold Gr.upd
    split
    · rename_i e; subst e; omega
    · exact h.le k hk⟩
theorem UpE.done {n : Nat} {L : El} {row : List Nat} {d E X : Tm} (hT : Topo n L row) (h : UpE n E X) (hE : IsE n L d E) (h1 : ∀ i j, ed L j i → X j + d j ≤ X i) : ∀ i, i < n → X i = E i := fun i hi => by
  have a := hE.least hT h.pos h1 i hi
  have b := h.le i hi
  omega
/-- times on their way down -/
structure DownL (n : Nat) (d : Tm) (S : Int) (T X : Tm) : Prop where
  le : ∀ i, i < n → X i ≤ S - d i
  ge : ∀ i, i < n → T i ≤ X i
theorem DownL.upd {n : Nat} {L : El} {d T X : Tm} {S : Int} {i k : Nat} (h : DownL n d S T X) (hL : IsL n L d S T) (hO : Ok n L) (hd : ∀ i, i < n → 0 ≤ d i) (he : ed L i k) : DownL n d S T (upd X i (X k - d i)) := by
  have hk := (hO.ed he).2
  have a := h.ge k hk
  have b := hL.ge i k he
  have c := h.le k hk
  have e1 := hd k hk
  exact ⟨fun j hj => by
    unfold Gr.upd
    split
    · rename_i e; subst e; omega
    · exact h.le j hj, fun j hj => by
    unfold Gr.upd
    split
    · rename_i e; subst e; omega
    · exact h.ge j hj⟩
theorem DownL.done {n : Nat} {L : El} {row : List Nat} {d T X : Tm} {S : Int} (hO : Ok n L) (hT : Topo n L row) (h : DownL n d S T X) (hL : IsL n L d S T) (h1 : ∀ i k, ed L i k → X i ≤ X k - d i) : ∀ i, i < n → X i = T i := fun i hi => by
  have a := hL.most hO hT h.le h1 i hi
  have b := h.ge i hi
  omega
/-- the first k told anew -/
def updK (A B : Tm) (k : Nat) : Tm := fun i => if i < k then B i else A i
theorem updK_go (A B : Tm) (k : Nat) : updK A B (k + 1) = upd (updK A B k) k (B k) := by
  funext i
  simp only [updK, upd]
  by_cases e : i = k
  · subst e; simp
  · by_cases h : i < k
    · simp [e, h, show i < k + 1 by omega]
    · simp [e, h, show ¬ i < k + 1 by omega]
end Go.Proofs.Ytfjoakhcgpckgaa.Gr
