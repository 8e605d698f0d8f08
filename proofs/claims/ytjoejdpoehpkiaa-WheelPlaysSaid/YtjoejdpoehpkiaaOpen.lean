/- Opening arguments: a struct's fields, a slice's elements, and how much room each takes. -/
import Derived.Test.YtjoejdpoehpkiaaBase
import Derived.Deep.Slices
import Derived.Lib.SmallJoins
import Derived.SizedLaws
namespace Go.Proofs.Ytjoejdpoehpkiaa
open Go.ChangeShapes Go.WideShapes Go.ChangeAt Go.RowKit Go.Joins Go.Deep
set_option linter.unusedVariables false
section
variable {H : Type} {enc : TypeId × Value → H} {P : Program} {w : World} {base : Nat} {spare : Nat → Bool} {held : Bool}

/-- one field of a struct: its own reading, over its own cells -/
theorem field {t : TypeId} {fs : Array Field} {fuel : Nat} {cs : List Value} {x : DataW H × List MemPlace} (ht : P.underlying t = some (.struct fs)) (h : DataW.trod enc P w base spare held fuel t cs = some x)
    (i T off k : Nat) (hT : (fs[i]?).map (fun f => (f.type, f.offset)) = some (T, off)) (hk : P.cellsOf T = k) :
    ∃ (parts : List (DataW H)) (m : Nat) (y : DataW H × List MemPlace), x.1 = .agg parts ∧ parts[i]? = some y.1 ∧ DataW.trod enc P w base spare held m T ((cs.drop off).take k) = some y := by
  obtain ⟨xs, n, _, hx, _, hl, hf⟩ := DataW.trod_struct ht h
  cases hfi : fs[i]? with
  | none => simp [hfi] at hT
  | some f =>
    simp only [hfi, Option.map_some, Option.some.injEq, Prod.mk.injEq] at hT
    have h1 := hf i f hfi
    rw [hT.1, hT.2, hk] at h1
    have hi : i < xs.length := by rw [hl]; exact (Array.getElem?_eq_some_iff.1 hfi).1
    have h2 : xs[i]? = some xs[i] := List.getElem?_eq_getElem hi
    exact ⟨xs.map (·.1), n, xs[i], by rw [hx], by simp [hi], h1.trans h2⟩

theorem cell_int {t : TypeId} {k : IntKind} {fuel : Nat} {v : Value} {x : DataW H × List MemPlace} (ht : P.underlying t = some (.int k)) (h : DataW.trod enc P w base spare held fuel t [v] = some x) : ∃ n, v = .int k n ∧ (Lit.int k n).wf = true := by
  obtain ⟨n, e, _, hw⟩ := DataW.trod_int ht h
  simp only [List.cons.injEq, and_true] at e
  exact ⟨n, e, hw⟩

/-- each string, slice and map in it takes no more than the reach -/
def Light (P : Program) (t : TypeId) (d : DataW H) : Prop := ∀ n ∈ d.weights P t, n ≤ reachBytes
theorem light_each {ts : List TypeId} {ds : List (DataW H)} (h : (DataW.weightsEach P ts ds).all (· ≤ reachBytes) = true) {j : Nat} {t : TypeId} {d : DataW H} (ht : ts[j]? = some t) (hd : ds[j]? = some d) : Light P t d := fun n hn => by
  simpa using List.all_eq_true.1 h _ (DataW.weights_mem_each ht hd n hn)
theorem weightsAll_mem {e : TypeId} : ∀ {l : List (DataW H)} {d : DataW H}, d ∈ l → ∀ n ∈ d.weights P e, n ∈ DataW.weightsAll P e l
  | d0 :: l, d, hd, n, hn => by
    simp only [DataW.weightsAll, List.mem_append]
    rcases List.mem_cons.1 hd with rfl | hd
    · exact .inl hn
    · exact .inr (weightsAll_mem hd n hn)
theorem light_slice {t e : TypeId} {elems sp : List (DataW H)} (hu : P.underlying t = some (.slice e)) (h : Light P t (.slice elems sp)) : (elems.length + sp.length) * P.bytesOf e ≤ reachBytes ∧ (∀ d ∈ elems, Light P e d) ∧ ∀ d ∈ sp, Light P e d := by
  unfold Light at h
  simp only [DataW.weights, hu] at h
  exact ⟨h _ (by simp), fun d hd n hn => h n (by simp [weightsAll_mem hd n hn]), fun d hd n hn => h n (by simp [weightsAll_mem hd n hn])⟩
theorem light_field {t : TypeId} {fs : Array Field} {parts : List (DataW H)} (hu : P.underlying t = some (.struct fs)) (h : Light P t (.agg parts)) {i T off : Nat} (hT : (fs[i]?).map (fun f => (f.type, f.offset)) = some (T, off)) {d : DataW H} (hd : parts[i]? = some d) : Light P T d := by
  unfold Light at h
  simp only [DataW.weights, hu] at h
  cases hfi : fs[i]? with
  | none => simp [hfi] at hT
  | some f =>
    simp only [hfi, Option.map_some, Option.some.injEq, Prod.mk.injEq] at hT
    refine fun n hn => h n (DataW.weights_mem_each (j := i) (t := T) ?_ hd n hn)
    simp [hfi, hT.1]
theorem light_string {t : TypeId} {bytes : List UInt8} (h : Light P t (.lit (.string bytes) : DataW H)) : bytes.length ≤ reachBytes := by
  unfold Light at h
  exact h _ (by simp [DataW.weights])
end
end Go.Proofs.Ytjoejdpoehpkiaa
