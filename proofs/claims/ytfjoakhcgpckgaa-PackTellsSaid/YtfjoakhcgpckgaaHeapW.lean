/- The program's heap of things: its memory; contracts: is one ahead of another, Len, Less, Swap. -/
import Derived.Test.YtfjoakhcgpckgaaHeapMath
import Derived.Test.YtfjoakhcgpckgaaMid
import Derived.StillTailTactics
import Derived.Deep.DeepCutAuto
import Derived.BigQuiet
namespace Go.Proofs.Ytfjoakhcgpckgaa
open Go.ChangeShapes Go.WideShapes Go.ChangeAt Go.RowKit
set_option linter.unusedVariables false
open Hp
/-- all but the blocks in F is kept -/
structure Kept (F : Nat → Prop) (w w' : World) : Prop where
  os : w'.os = w.os
  tape : w'.tape = w.tape
  output : w'.output = w.output
  size : w.heap.size ≤ w'.heap.size
  block : ∀ k, k < w.heap.size → ¬ F k → w'.heap[k]? = w.heap[k]?
theorem Kept.refl (F : Nat → Prop) (w : World) : Kept F w w := ⟨rfl, rfl, rfl, Nat.le_refl _, fun _ _ _ => rfl⟩
theorem Kept.trans {F G : Nat → Prop} {a b c : World} (h : Kept F a b) (k : Kept G b c) (hG : ∀ x, G x → F x ∨ a.heap.size ≤ x) : Kept F a c :=
  ⟨k.os.trans h.os, k.tape.trans h.tape, k.output.trans h.output, Nat.le_trans h.size k.size, fun x hx hn => (k.block x (Nat.lt_of_lt_of_le hx h.size) fun hg => by
    rcases hG x hg with h1 | h1
    · exact hn h1
    · omega).trans (h.block x hx hn)⟩
theorem Kept.drew {F : Nat → Prop} {a w : World} (h : Kept F a w) : Kept F a w.drew := ⟨h.os, h.tape, h.output, h.size, h.block⟩
theorem Kept.alloc {F : Nat → Prop} {a w : World} (h : Kept F a w) (o : Obj) : Kept F a (w.alloc o) :=
  ⟨h.os, h.tape, h.output, by have := h.size; simp; omega, fun k hk hn => (Below.heap_alloc w o k (Nat.lt_of_lt_of_le hk h.size)).trans (h.block k hk hn)⟩
theorem Kept.setCell {F : Nat → Prop} {a w : World} (h : Kept F a w) {p : Addr} (hp : F p.block ∨ a.heap.size ≤ p.block) (u : Value) : Kept F a (w.setCell p u) :=
  ⟨h.os, h.tape, h.output, by have := h.size; simpa using this, fun k hk hn => (Below.heap_setCell w p u k fun e => by
    subst e
    rcases hp with h1 | h1
    · exact hn h1
    · omega).trans (h.block k hk hn)⟩
theorem Kept.below {F : Nat → Prop} {w w' : World} (hb : Below w.heap.size w w') : Kept F w w' := ⟨hb.os, hb.tape, hb.output, hb.size, fun k hk _ => hb.block k hk⟩
theorem Kept.toBelow {F : Nat → Prop} {w w' : World} (h : Kept F w w') {B : Nat} (hB : B ≤ w.heap.size) (hF : ∀ k, F k → B ≤ k) : Below B w w' :=
  ⟨h.os, h.tape, h.output, h.size, fun k hk => h.block k (by omega) fun hf => by have := hF k hf; omega⟩
def ptr1 (t : Th) : Value := .pointer (some ⟨t.blk, 0, none⟩)
def ptrs (ts : List Th) : List Value := ts.map ptr1
theorem ptrs_length (ts : List Th) : (ptrs ts).length = ts.length := by simp [ptrs]
theorem ptrs_at {ts : List Th} {j : Nat} {t : Th} (h : ts[j]? = some t) : (ptrs ts)[j]? = some (ptr1 t) := by simp [ptrs, h]
def thF (t : Th) (j : Nat) (i : Nat) : Value := .int .i64 (if i = 0 then t.prio else if i = 1 then t.id else if i = 2 then t.born else (j : Int))
def qF (v : Value) (gm : Nat) (born : Int) (i : Nat) : Value := if i = 0 then v else if i = 1 then .map (some gm) else .int .i64 born
/-- a queue's struct, its row and its things; all in F -/
structure HW (F : Nat → Prop) (gq gm : Nat) (born : Int) (v : Value) (ts : List Th) (w : World) : Prop where
  var : w.rowIs gq 176 3 (qF v gm born)
  fq : F gq
  row : w.ownsRow 0 177 1 v ts.length (ptrs ts)
  rowF : ∀ k, v.ownBlock = some k → F k
  th : ∀ (j : Nat) (t : Th), ts[j]? = some t → F t.blk ∧ w.rowIs t.blk 179 4 (thF t j)
  inj : ∀ (i j : Nat) (a b : Th), ts[i]? = some a → ts[j]? = some b → a.blk = b.blk → i = j
theorem rowIs_kept {F : Nat → Prop} {w w' : World} {b : Nat} {t : TypeId} {n : Nat} {f : Nat → Value} (h : w.rowIs b t n f) (hk : Kept F w w') (hb : ¬ F b) : w'.rowIs b t n f := h.of_block (hk.block b h.lt hb)
/-- the row of a heap that is not empty -/
theorem HW.slice {F : Nat → Prop} {gq gm : Nat} {born : Int} {v : Value} {ts : List Th} {w : World} (h : HW F gq gm born v ts w) (hp : 0 < ts.length) : ∃ g cap, v = .slice (some ⟨g, 0, none⟩) ts.length cap ∧ g < w.heap.size ∧ F g := by
  rcases h.row.2 with ⟨_, h0⟩ | ⟨g, cap, cur, e, _, hg, _⟩
  · omega
  · exact ⟨g, cap, e, (Array.getElem?_eq_some_iff.1 hg).1, h.rowF g (by rw [e]; rfl)⟩
theorem HW.ptr {F : Nat → Prop} {gq gm : Nat} {born : Int} {ts : List Th} {w : World} {g n cap : Nat} (h : HW F gq gm born (.slice (some ⟨g, 0, none⟩) n cap) ts w) {j : Nat} {t : Th} (hj : ts[j]? = some t) : w.cell? ⟨g, j, none⟩ = some (ptr1 t) := by
  have := h.row.cells (g := g) rfl j (ptr1 t) (ptrs_at hj)
  rwa [show (⟨g, 0, none⟩ : Addr).add j = ⟨g, j, none⟩ from by unfold Addr.add; split <;> simp_all] at this
set_option maxRecDepth 20000 in
set_option maxHeartbeats 4000000 in
theorem ahead_any (a b : Th) (j k : Nat) (w : World) (h1 : w.rowIs a.blk 179 4 (thF a j)) (h2 : w.rowIs b.blk 179 4 (thF b k)) :
    Calls Try.prog 273 #[ptr1 a, ptr1 b] w fun e w' => e = .returned (.bool (ahd a b)) ∧ ∃ q, w' = w.drewN q := by
  have a0 : w.cell? ⟨a.blk, 0, none⟩ = some (.int .i64 a.prio) := h1.cell (i := 0) (by omega)
  have a2 : w.cell? ⟨a.blk, 2, none⟩ = some (.int .i64 a.born) := h1.cell (i := 2) (by omega)
  have b0 : w.cell? ⟨b.blk, 0, none⟩ = some (.int .i64 b.prio) := h2.cell (i := 0) (by omega)
  have b2 : w.cell? ⟨b.blk, 2, none⟩ = some (.int .i64 b.born) := h2.cell (i := 2) (by omega)
  have la := h1.lt
  have lb := h2.lt
  unfold ptr1
  clear h1 h2
  cases hp : decide (a.prio > b.prio) with
  | true =>
    have HV : Hid (ahd a b = true) := Lib.hid (by rw [ahd_iff]; simp at hp; omega)
    go_enter Try.func273, Try.ntmps273
    go_wp2_with fail
    go_quiet (fail)
    go_wp2_with fail
    go_ret
    exact ⟨by rw [HV.out]; rfl, nq, rfl⟩
  | false =>
    cases he : (a.prio == b.prio) with
    | true =>
      have HV : Hid (ahd a b = decide (a.born < b.born)) := Lib.hid (by
        rw [Bool.eq_iff_iff, ahd_iff]
        simp at hp he ⊢
        omega)
      go_enter Try.func273, Try.ntmps273
      go_wp2_with fail
      go_quiet (fail)
      go_wp2_with fail
      go_ret
      exact ⟨by rw [HV.out]; rfl, nq, rfl⟩
    | false =>
      have HV : Hid (ahd a b = false) := Lib.hid (by
        rw [ahd_not]
        simp at hp he ⊢
        omega)
      go_enter Try.func273, Try.ntmps273
      go_wp2_with fail
      go_quiet (fail)
      go_wp2_with fail
      go_ret
      exact ⟨by rw [HV.out]; rfl, nq, rfl⟩
theorem quiet_dr {P : Program} {f : FuncId} {args : Array Value} {w : World} {n : Nat} {v : Value} (h : Calls P f args (w.drewN n) fun e w' => e = .returned v ∧ ∃ q, w' = (w.drewN n).drewN q) : Calls P f args (w.drewN n) fun e w'' => e = .returned v ∧ ∃ m, w'' = w.drewN m :=
  h.mono fun _ _ ⟨he, q, hm⟩ => ⟨he, n + q, by rw [hm, World.drewN_drewN]⟩
theorem rowIs_drewN {w : World} {b : Nat} {t : TypeId} {n : Nat} {f : Nat → Value} (h : w.rowIs b t n f) (q : Nat) : (w.drewN q).rowIs b t n f := rowIs_below h ((Drawn.drewN w q).below _) h.lt
theorem Len_any (v : Value) (n : Nat) (w : World) (hv : ∃ a cap, v = .slice a n cap) :
    Calls Try.prog 270 #[v] w fun e w' => e = .returned (.int .i64 n) ∧ w' = w := by
  obtain ⟨a, cap, rfl⟩ := hv
  go_enter Try.func270, Try.ntmps270
  go_wp2_with fail
  go_ret
  exact ⟨rfl, rfl⟩
set_option maxHeartbeats 4000000 in
theorem Less_any (F : Nat → Prop) (gq gm : Nat) (born : Int) (v : Value) (ts : List Th) (i k : Nat) (a b : Th) (w : World) (h : HW F gq gm born v ts w) (ha : ts[i]? = some a) (hb : ts[k]? = some b) (h4 : ts.length ≤ 1000) :
    Calls Try.prog 271 #[v, .int .i64 i, .int .i64 k] w fun e w' => e = .returned (.bool (ahd a b)) ∧ ∃ q, w' = w.drewN q := by
  have hi := (List.getElem?_eq_some_iff.1 ha).1
  have hk := (List.getElem?_eq_some_iff.1 hb).1
  obtain ⟨g, cap, rfl, hg, _⟩ := h.slice (by omega)
  have c1 := h.ptr ha
  have c2 := h.ptr hb
  obtain ⟨n, hn⟩ : ∃ n, n = ts.length := ⟨_, rfl⟩
  rw [← hn] at hi hk h4 ⊢
  have HA := Lib.hid (h.th i a ha).2
  have HB := Lib.hid (h.th k b hb).2
  have hi1 : (0 : Int) ≤ (i : Int) := by omega
  have hi2 : (i : Int) < (n : Int) := by omega
  have hk1 : (0 : Int) ≤ (k : Int) := by omega
  have hk2 : (k : Int) < (n : Int) := by omega
  clear h ha hb hn
  go_enter Try.func271, Try.ntmps271
  go_wp2_with fail
  go_quiet ((go_at_call 273; exact quiet_dr (ahead_any a b i k _ (rowIs_drewN HA.out _) (rowIs_drewN HB.out _))))
  go_wp2_with fail
  go_ret
  exact ⟨rfl, _, rfl⟩
end Go.Proofs.Ytfjoakhcgpckgaa
