/- All but some blocks is kept. -/
import Derived.Test.YtjoejdpoehpkiaaOwn
namespace Go.Proofs.Ytjoejdpoehpkiaa
open Go.ChangeShapes Go.WideShapes Go.ChangeAt Go.RowKit
set_option linter.unusedVariables false
/-- all but the blocks in F is kept -/
structure Kept (F : Nat → Prop) (w w' : World) : Prop where
  os : w'.os = w.os
  tape : w'.tape = w.tape
  output : w'.output = w.output
  size : w.heap.size ≤ w'.heap.size
  block : ∀ k, k < w.heap.size → ¬ F k → w'.heap[k]? = w.heap[k]?
theorem Kept.refl (F : Nat → Prop) (w : World) : Kept F w w := ⟨rfl, rfl, rfl, Nat.le_refl _, fun _ _ _ => rfl⟩
theorem Kept.trans {F G : Nat → Prop} {a b c : World} (h : Kept F a b) (k : Kept G b c) (hG : ∀ x, G x → F x ∨ a.heap.size ≤ x) : Kept F a c :=
  ⟨k.os.trans h.os, k.tape.trans h.tape, k.output.trans h.output, Nat.le_trans h.size k.size, fun x hx hn => (k.block x (Nat.lt_of_lt_of_le hx h.size) fun hg => by
    rcases hG x hg with h1 | h1
    · exact hn h1
    · omega).trans (h.block x hx hn)⟩
theorem Kept.drew {F : Nat → Prop} {a w : World} (h : Kept F a w) : Kept F a w.drew := ⟨h.os, h.tape, h.output, h.size, h.block⟩
theorem Kept.alloc {F : Nat → Prop} {a w : World} (h : Kept F a w) (o : Obj) : Kept F a (w.alloc o) :=
  ⟨h.os, h.tape, h.output, by have := h.size; simp; omega, fun k hk hn => (Below.heap_alloc w o k (Nat.lt_of_lt_of_le hk h.size)).trans (h.block k hk hn)⟩
theorem Kept.setCell {F : Nat → Prop} {a w : World} (h : Kept F a w) {p : Addr} (hp : F p.block ∨ a.heap.size ≤ p.block) (u : Value) : Kept F a (w.setCell p u) :=
  ⟨h.os, h.tape, h.output, by have := h.size; simpa using this, fun k hk hn => (Below.heap_setCell w p u k fun e => by
    subst e
    rcases hp with h1 | h1
    · exact hn h1
    · omega).trans (h.block k hk hn)⟩
theorem Kept.below {F : Nat → Prop} {w w' : World} (hb : Below w.heap.size w w') : Kept F w w' := ⟨hb.os, hb.tape, hb.output, hb.size, fun k hk _ => hb.block k hk⟩
theorem Kept.toBelow {F : Nat → Prop} {w w' : World} (h : Kept F w w') {B : Nat} (hB : B ≤ w.heap.size) (hF : ∀ k, F k → B ≤ k) : Below B w w' :=
  ⟨h.os, h.tape, h.output, h.size, fun k hk => h.block k (by omega) fun hf => by have := hF k hf; omega⟩
theorem Kept.grown {F : Nat → Prop} {a w w' : World} {row : Option Nat} (h : Kept F a w) (hg : w.grownBy w' row) (hr : ∀ k, row = some k → F k ∨ a.heap.size ≤ k) : Kept F a w' := by
  have hb := (Below.refl 0 w).grown hg (Nat.zero_le _) (fun _ _ => Nat.zero_le _)
  refine ⟨hb.os.trans h.os, hb.tape.trans h.tape, hb.output.trans h.output, Nat.le_trans h.size hb.size, fun k hk hn => ?_⟩
  have e1 := h.block k hk hn
  rw [← e1]
  refine hg.block k (Nat.lt_of_lt_of_le hk h.size) fun e => ?_
  rcases hr k e.symm with h1 | h1
  · exact hn h1
  · omega
theorem rowIs_kept {F : Nat → Prop} {w w' : World} {b : Nat} {t : TypeId} {n : Nat} {f : Nat → Value} (h : w.rowIs b t n f) (hk : Kept F w w') (hb : ¬ F b) : w'.rowIs b t n f := h.of_block (hk.block b h.lt hb)
theorem Kept.wide {F G : Nat → Prop} {a b : World} (h : Kept F a b) (hG : ∀ k, F k → G k ∨ a.heap.size ≤ k) : Kept G a b :=
  ⟨h.os, h.tape, h.output, h.size, fun k hk hn => h.block k hk fun hf => by
    rcases hG k hf with h1 | h1
    · exact hn h1
    · omega⟩
theorem Kept.drewN {F : Nat → Prop} {a w : World} (h : Kept F a w) : ∀ q, Kept F a (w.drewN q)
  | 0 => h
  | q + 1 => (Kept.drewN h q).drew
section
variable {w w' : World} {base n size : Nat} {e : TypeId} {v : Value} {xs : List Value}
theorem own_block (h : w.ownsRow base e size v n xs) (hn : ∀ k, v.ownBlock = some k → w'.heap[k]? = w.heap[k]?) : w'.ownsRow base e size v n xs := by
  refine ⟨h.1, ?_⟩
  rcases h.2 with h2 | ⟨g, cap, cur, rfl, hbg, hgg, rest⟩
  · exact .inl h2
  · exact .inr ⟨g, cap, cur, rfl, hbg, by rw [hn g rfl]; exact hgg, rest⟩
theorem own_setO (h : w.ownsRow base e size v n xs) {p : Addr} (hne : v.ownBlock ≠ some p.block) (u : Value) : (w.setCell p u).ownsRow base e size v n xs :=
  own_block h fun k hk => Below.heap_setCell w p u k fun e => hne (by rw [hk, e])
theorem own_neR (h : w.ownsRow base e size v n xs) {c : Nat} {t : TypeId} {m : Nat} {f : Nat → Value} (hc : w.rowIs c t m f) (ht : t ≠ e) : v.ownBlock ≠ some c := fun e => by
  rcases h.2 with ⟨rfl, _⟩ | ⟨g, cap, cur, rfl, hb, hg, h3⟩
  · cases e
  · obtain rfl : g = c := by simpa [Value.ownBlock] using e
    obtain ⟨cs, hb2, _⟩ := hc
    rw [hg] at hb2
    simp at hb2
    exact ht hb2.2.symm
theorem own_sliceF (h : w.ownsRow base e size v n xs) : ∃ a cap, v = .slice a n cap ∧ n ≤ cap ∧ cap ≤ maxLen := by
  rcases h.2 with ⟨rfl, rfl⟩ | ⟨g, cap, cur, rfl, _, _, h4, h5, _⟩
  · exact ⟨none, 0, rfl, Nat.le_refl _, Nat.zero_le _⟩
  · exact ⟨_, cap, rfl, h4, h5⟩
end
end Go.Proofs.Ytjoejdpoehpkiaa
