/- A map of texts by texts that the call makes: what it reads as. -/
import Derived.Test.YtooocllampkibaaDoorTmplFilM
import Derived.Maps.OwnSet
import Derived.Maps.OwnOps
import Derived.Maps.StringElems
import Derived.StringKeys
namespace Go.Proofs.YtooocllampkibaaDoor
open Go.ChangeShapes Go.WideShapes Go.ChangeAt Go.RowKit
open Go.Maps (Keyed)
set_option linter.unusedVariables false
open Tp
namespace Tp
/-- what stands beside a key; nothing, where the key is none -/
def lookD (l : List Lab) (k : Bs) : Bs := l.foldl (fun t x => if x.1 = k then x.2 else t) []
theorem lookD_succ {l : List Lab} {q : Nat} {y : Lab} (k : Bs) (hy : l[q]? = some y) : lookD (l.take (q + 1)) k = if y.1 = k then y.2 else lookD (l.take q) k := by
  rw [take_snoc hy]; simp [lookD]
theorem look_eq (l : List Lab) (k : Bs) : ∀ a b : Bs, k ∈ keys l → l.foldl (fun t (x : Lab) => if x.1 = k then x.2 else t) a = l.foldl (fun t (x : Lab) => if x.1 = k then x.2 else t) b := by
  induction l with
  | nil => intro a b h; simp [keys] at h
  | cons y l ih =>
    intro a b h
    rw [List.foldl_cons, List.foldl_cons]
    by_cases e : y.1 = k
    · rw [if_pos e, if_pos e]
    · rw [if_neg e, if_neg e]
      refine ih a b ?_
      simp only [keys, List.map_cons, List.mem_cons] at h
      rcases h with h | h
      · exact absurd h.symm e
      · exact h
theorem lookD_eq {l : List Lab} {k : Bs} (h : k ∈ keys l) : lookD l k = lookT l k := look_eq l k [] k h
theorem lookD_mem {l : List Lab} {k : Bs} {n : Nat} (h : ∀ x, x ∈ l → x.2.length ≤ n) : (lookD l k).length ≤ n := by
  have : ∀ (l : List Lab) (a : Bs), a.length ≤ n → (∀ x, x ∈ l → x.2.length ≤ n) → (l.foldl (fun t (x : Lab) => if x.1 = k then x.2 else t) a).length ≤ n := by
    intro l
    induction l with
    | nil => intro a h1 _; exact h1
    | cons y l ih =>
      intro a h1 h2
      rw [List.foldl_cons]
      refine ih _ ?_ (fun x hx => h2 x (by simp [hx]))
      split
      · exact h2 y (by simp)
      · exact h1
  exact this l [] (by simp) h
end Tp
theorem keyStr : Keyed Tryd.prog 9 := Maps.string_keyed Tryd.underlying9
/-- block gm is a map that reads as labels do -/
def BoxL (gm q : Nat) (l : List Lab) (w : World) : Prop :=
  ∃ D : DataW Unit, w.ownsMap Tryd.prog 9 (plainElem Tryd.prog 9) gm q D ∧ Maps.Tidy D ∧ (∀ k : Bs, D.atKey (.string k) (.lit (.string [])) = .lit (.string (lookD l k))) ∧ (∀ k : Bs, Maps.has D (.string k) = decide (k ∈ keys l))
theorem zeroStr (w : World) : (zeroValue 9).run Tryd.prog w = .ok (.string ⟨#[]⟩) w := by kernel_rfl
theorem BoxL.look {gm q : Nat} {l : List Lab} {w : World} (hM : BoxL gm q l w) {k : Bs} (hk : k.length ≤ maxLen) : (Instr.lookup 41 (.map (some gm)) (.string (bts k)) true).run Tryd.prog w = .ok (.tuple #[.string (bts (lookD l k)), .bool (decide (k ∈ keys l))]) w := by
  obtain ⟨D, ho, hm, hd, hh⟩ := hM
  have hs : (bts k).size ≤ maxLen := by rw [bts_size]; exact hk
  obtain ⟨v, ps, hr, hv⟩ := ho.look_ok keyStr Tryd.underlying41 (zeroStr w) (plainElem_string Tryd.underlying9 (s := ⟨#[]⟩) (by decide)) (WideMaps.keyOf_string_mk Tryd.underlying9 hs)
  obtain ⟨c, rfl, hc, _⟩ := plainElem_string_inv Tryd.underlying9 hv
  have e : D.atKey (.string (bts k).data.toList) (.lit (.string [])) = .lit (.string (lookD l k)) := hd k
  have e2 : Maps.has D (.string (bts k).data.toList) = decide (k ∈ keys l) := hh k
  have e3 : (⟨#[]⟩ : ByteArray).data.toList = [] := rfl
  rw [e3, e] at hc
  simp only [Prod.mk.injEq, DataW.lit.injEq, Lit.string.injEq] at hc
  rw [hr, e2, hc.1]
  have := bts_lst c
  unfold lst at this
  rw [this]
theorem BoxL.get {gm q : Nat} {l : List Lab} {w : World} (hM : BoxL gm q l w) {k : Bs} (hk : k.length ≤ maxLen) : (Instr.lookup 41 (.map (some gm)) (.string (bts k)) false).run Tryd.prog w = .ok (.string (bts (lookD l k))) w := by
  obtain ⟨D, ho, hm, hd, hh⟩ := hM
  have hs : (bts k).size ≤ maxLen := by rw [bts_size]; exact hk
  obtain ⟨v, ps, hr, hv⟩ := ho.lookup keyStr Tryd.underlying41 (zeroStr w) (plainElem_string Tryd.underlying9 (s := ⟨#[]⟩) (by decide)) (WideMaps.keyOf_string_mk Tryd.underlying9 hs)
  obtain ⟨c, rfl, hc, _⟩ := plainElem_string_inv Tryd.underlying9 hv
  have e : D.atKey (.string (bts k).data.toList) (.lit (.string [])) = .lit (.string (lookD l k)) := hd k
  have e3 : (⟨#[]⟩ : ByteArray).data.toList = [] := rfl
  rw [e3, e] at hc
  simp only [Prod.mk.injEq, DataW.lit.injEq, Lit.string.injEq] at hc
  rw [hr, hc.1]
  have := bts_lst c
  unfold lst at this
  rw [this]
theorem BoxL.made (w : World) : BoxL w.heap.size 0 [] (w.alloc (.map #[] 0)) :=
  ⟨_, World.ownsMap_made _ _ _ _, Maps.tidy_empty, fun _ => rfl, fun _ => rfl⟩
theorem BoxL.lt {gm q : Nat} {l : List Lab} {w : World} (hM : BoxL gm q l w) : gm < w.heap.size := by
  obtain ⟨D, ho, _⟩ := hM
  exact ho.lt
theorem BoxL.kept {gm q : Nat} {l : List Lab} {w w' : World} (hM : BoxL gm q l w) (e : w'.heap[gm]? = w.heap[gm]?) : BoxL gm q l w' := by
  obtain ⟨D, ⟨es, clock, e1, e2⟩, h2⟩ := hM
  exact ⟨D, ⟨es, clock, e.trans e1, e2⟩, h2⟩
theorem BoxL.upd {gm q j : Nat} {l : List Lab} {x : Lab} {w : World} (hM : BoxL gm q (l.take j) w) (hq : q < maxLen) (hx : l[j]? = some x) (h1 : x.1.length ≤ maxLen) (h2 : x.2.length ≤ maxLen) :
    ∃ w', (Instr.mapUpdate 41 (.map (some gm)) (.string (bts x.1)) (.string (bts x.2))).run Tryd.prog w = .ok () w' ∧ BoxL gm (q + 1) (l.take (j + 1)) w' ∧ w.grownBy w' (some gm) := by
  obtain ⟨D, ho, hD, hd, hh⟩ := hM
  obtain ⟨w', hrun, r1, r2⟩ := ho.update keyStr Tryd.underlying41 hq (WideMaps.keyOf_string_mk Tryd.underlying9 (by rw [bts_size]; exact h1)) (plainElem_string Tryd.underlying9 (s := bts x.2) (by rw [bts_size]; exact h2))
  have hk : WideAt.IsKeyLit (.string x.1) := trivial
  refine ⟨w', hrun, ⟨_, r1, hD.put hk _, fun k => ?_, fun k => ?_⟩, r2⟩
  · rw [lookD_succ k hx]
    show (D.put (.string x.1) (.lit (.string x.2))).atKey (.string k) (.lit (.string [])) = _
    by_cases e : x.1 = k
    · rw [if_pos e, ← e]
      exact Maps.atKey_put_same hD.isMap (k := .string x.1) trivial _ _
    · rw [if_neg e, Maps.atKey_put_other (by simpa using fun h : k = x.1 => e h.symm)]
      exact hd k
  · rw [keys_dec hx]
    show Maps.has (D.put (.string x.1) (.lit (.string x.2))) (.string k) = _
    by_cases e : x.1 = k
    · rw [← e, Maps.has_put_same hD.isMap (k := .string x.1) trivial]
      simp
    · rw [Maps.has_put_other (by simpa using fun h : k = x.1 => e h.symm), hh k]
      simp [e]
end Go.Proofs.YtooocllampkibaaDoor
