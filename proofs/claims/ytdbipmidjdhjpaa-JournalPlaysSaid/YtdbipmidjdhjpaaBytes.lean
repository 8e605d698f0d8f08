/- JournalPlays: the copy of a disk's bytes, held against the document's. -/
import Derived.Test.YtdbipmidjdhjpaaPairCalls
namespace Go.Proofs.Ytdbipmidjdhjpaa
open Go.ChangeShapes Go.WideShapes Go.ChangeAt Go.RowKit
set_option linter.unusedVariables false

/-- a slice value whose bytes are xs -/
def Cloned (w : World) (xs : List Int) (e : Ending) (w' : World) : Prop := ∃ a c, e = .returned (.slice a xs.length c) ∧ Lib.BytesIn w' a xs.length xs ∧ Below w.heap.size w w'

theorem bytesIn_own {w : World} {base : Nat} {a : Option Addr} {n c : Nat} {L : List Int} (h : w.ownsRow base 5 1 (.slice a n c) L.length (L.map (.int .u8))) : Lib.BytesIn w a L.length L := by
  rcases src_of_own h with ⟨hv, h0, _⟩ | ⟨ad, c', hv, hl, hc⟩
  · rw [h0]; exact Lib.BytesIn.nil _ _ _
  · injection hv with e1 e2 e3
    subst e1
    refine Lib.BytesIn.of_cells fun i hi => ?_
    have := hc i (.int .u8 (L.getD i 0)) (by simp [List.getD, hi])
    exact this

theorem bytes_any (w : World) (base B : Nat) (v : Value) (L : List Int) (s : Nat) (hd : DiskAt w base B v L s) :
    Calls Try.prog 17 #[.pointer (some ⟨B, 0, none⟩)] w (Cloned w L) := by
  obtain ⟨c0, c1, f0, f1, hown, hl, hs⟩ := hd
  have HOWN := Lib.hid hown
  rcases slice_shape2 hown with ⟨rfl, h0⟩ | ⟨g, c, rfl, hgc⟩
  · clear hown
    have hLn : L = [] := List.eq_nil_of_length_eq_zero h0
    subst hLn
    go_enter Try.func17, Try.ntmps17
    go_wp2_with (go_at_call 57; refine (Try.bytes_Clone_nil _ _ _).mono ?_; rintro e w1 ⟨rfl, hw1⟩; rw [hw1]; clear hw1)
    go_ret
    exact ⟨none, 0, rfl, Lib.BytesIn.nil _ _ _, Below.refl _ _⟩
  · have hcells := hown.cells (g := g) rfl
    have HC : Hid (∀ i, i < L.length → w.cell? ((⟨g, 0, none⟩ : Addr).add i) = some (.int .u8 (L.getD i 0))) := Lib.hid fun i hi => hcells i _ (by simp [List.getD, hi])
    clear hown hcells
    go_enter Try.func17, Try.ntmps17
    go_wp2_with (go_at_call 57; refine (Try.bytes_Clone_at ⟨g, 0, none⟩ _ _ L _ rfl (by omega) HC.out).mono ?_; rintro e w1 ⟨v1, rfl, hown1, _, hb1⟩)
    go_ret
    obtain ⟨a1, c1', rfl, _⟩ := slice_shape (base := w.heap.size) (n := L.length) (xs := L.map (.int .u8)) hown1
    exact ⟨_, _, rfl, bytesIn_own hown1, hb1⟩

theorem pair_bytes {W w : World} {L L' : List Int} {s s' : Nat} (h : Pair W w L s L' s') :
    Calls Try.prog 17 #[.pointer (some ⟨W.heap.size, 0, none⟩)] w fun e w' => ∃ a c, e = .returned (.slice a L.length c) ∧ Lib.BytesIn w' a L.length L ∧ Pair W w' L s L' s' ∧ Keeps W w w' ∧ Below w.heap.size w w' := by
  have h0 := h
  obtain ⟨v, v', hd, hd', hne, hsz, hB⟩ := h0
  refine (bytes_any w _ _ v L s hd).mono fun e w' ⟨a, c, he, hin, hb⟩ => ⟨a, c, he, hin, h.grown hb, Keeps.grown hb, hb⟩
/-- the document's disk's slice, as its cell holds it -/
theorem pair_ref {W w : World} {L L' : List Int} {s s' : Nat} (h : Pair W w L s L' s') : ∃ a c, w.cell? ⟨W.heap.size + 1, 0, none⟩ = some (.slice a L'.length c) ∧ Lib.BytesIn w a L'.length L' := by
  obtain ⟨v, v', hd, hd', hne, hsz, hB⟩ := h
  obtain ⟨c0, c1, f0, f1, hown, hl, hs⟩ := hd'
  obtain ⟨a, c, rfl, _⟩ := slice_shape hown
  exact ⟨a, c, c0, bytesIn_own hown⟩
end Go.Proofs.Ytdbipmidjdhjpaa
