/- Both readers of a job, at every text. -/
import Derived.Test.YtkemlckmfgacdaaGreatDoorJnP39
import Derived.Test.YtkemlckmfgacdaaGreatDoorJnP37
import Derived.Test.YtkemlckmfgacdaaGreatDoorJnP25
import Derived.Test.YtkemlckmfgacdaaGreatDoorJnP21
import Derived.Test.YtkemlckmfgacdaaGreatDoorJnP36
import Derived.Deep.OwnRows
namespace Go.Proofs.YtkemlckmfgacdaaGreatDoor
set_option maxRecDepth 20000
set_option maxHeartbeats 64000000
open Go.ChangeShapes Go.WideShapes Go.ChangeAt Go.RowKit
set_option linter.unusedVariables false
set_option linter.unusedSimpArgs false
open Tp Jm
theorem own_few {num : Bs → Option Int} {askr : Bs → Option Ask} {s : Bs} (h : (Nt.pcs 32 s).length ≠ 5) : own (parse num askr s) s = none := by
 unfold parse
 split
 ·rename_i e; rw [e] at h; exact absurd rfl h
 ·rfl
theorem five_pcs {l : List Bs} (h : l.length = 5) : ∃ u p n f x, l = [u, p, n, f, x] := by
 match l, h with
 | [u, p, n, f, x], _ => exact ⟨u, p, n, f, x, rfl⟩
theorem jobRead_any (s : Bs) (w : World) (he : Env w) : Calls Tryz.prog 7 #[.string (bts s)] w (JobRdQ w (if 3000 < s.length then none else rdA s) (if 3000 < s.length then 2 else 3)) := by
 by_cases hl : 3000 < s.length
 ·rw [if_pos hl, if_pos hl]; exact jobRead_long s w hl
 rw [if_neg hl, if_neg hl]
 by_cases h5 : (Nt.pcs 32 s).length = 5
 ·obtain ⟨u, p, n, f, x, e⟩ := five_pcs h5
  exact jobRead_five s w (by omega) he e
 ·rw [show rdA s = none from own_few h5]
  exact jobRead_few s w (by omega) he h5
theorem jobReadR_any (s : Bs) (w : World) (h : s.length ≤ 2000 ∨ 3000 < s.length) : Calls Tryz.prog 11 #[.string (bts s)] w (JobRdQ w (if 3000 < s.length then none else rdA s) (if 3000 < s.length then 2 else 3)) := by
 by_cases hl : 3000 < s.length
 ·rw [if_pos hl, if_pos hl]; exact jobReadR_long s w hl
 rw [if_neg hl, if_neg hl, rd_same (by omega)]
 by_cases h5 : (Nt.pcs 32 s).length = 5
 ·obtain ⟨u, p, n, f, x, e⟩ := five_pcs h5
  exact jobReadR_five s w (by omega) e
 ·rw [show rdR s = none from own_few h5]
  exact jobReadR_few s w (by omega) h5
end Go.Proofs.YtkemlckmfgacdaaGreatDoor
namespace Go.Proofs.YtkemlckmfgacdaaGreatDoor
set_option maxRecDepth 20000
set_option maxHeartbeats 64000000
open Go.ChangeShapes Go.WideShapes Go.ChangeAt Go.RowKit
set_option linter.unusedVariables false
set_option linter.unusedSimpArgs false
open Tp Jm Ev
def EvN (B : Nat) (w : World) (x : Evt) (v : Value) : Prop := ∃ (U : ByteArray) (P a b c x0 : Int) (x1 x2 : ByteArray) (x3 : Int) (xd : Option Addr) (xl xc : Nat) (aa : Option Addr) (n ac : Nat), v = evVal x.kind U P a b c x0 x1 x2 x3 xd xl xc aa n ac x.n x.id x.ok ∧ JobN B w x.job (jobVal U P a b c x0 x1 x2 x3 xd xl xc aa n ac)
def DecQ (w : World) (o : Option Evt) (code : Int) (e : Ending) (w' : World) : Prop := Below w.heap.size w w' ∧ match o with
 | some x => ∃ v, e = .returned (.tuple #[v, .int .i64 0]) ∧ EvN w.heap.size w' x v
 | none => e = .returned (.tuple #[evVal 0 ⟨#[]⟩ 0 0 0 0 0 ⟨#[]⟩ ⟨#[]⟩ 0 none 0 0 none 0 0 0 0 false, .int .i64 code])
theorem BoxV.drewN {c : Nat} {vs : List Value} {w : World} (h : BoxV c vs w) (q : Nat) : BoxV c vs (w.drewN q) := h.step (below_drewN (Below.refl _ _) q)
theorem JobP.puts {w : World} {j : Jb} {x0 : Int} {x1 x2 : ByteArray} {x3 : Int} {xd : Option Addr} {xl xc : Nat} {aa : Option Addr} {ac : Nat} (h : JobP w j x0 x1 x2 x3 xd xl xc aa ac) {C : Nat} (W : World) (hb : Below C w W) (hC : w.heap.size ≤ C) : JobP W j x0 x1 x2 x3 xd xl xc aa ac := h.below (hb.mono hC)
theorem rd_size {s : Bs} {j : Jb} (h : rdA s = some j) : j.ask.size ≤ 1000000000 := by
 have hf := (own_rd h).1
 have h4 := (fault_parts hf).2.2.2.1
 have hg := Ar.fault_good h4
 omega
theorem JobN.zero (B : Nat) (w : World) : JobN B w zJb (jobVal ⟨#[]⟩ 0 0 0 0 0 ⟨#[]⟩ ⟨#[]⟩ 0 none 0 0 none 0 0) := ⟨_, _, _, _, _, _, _, _, _, rfl, JobP.zero w, leaf_vp 0 [] [] 0 (by simp) (by simp), fun A h => by cases h⟩
theorem JobN.low {B B' : Nat} {w : World} {j : Jb} {v : Value} (h : JobN B w j v) (hB : B' ≤ B) : JobN B' w j v := by
 obtain ⟨x0, x1, x2, x3, xd, xl, xc, aa, ac, e, hp, ha, hb⟩ := h
 exact ⟨x0, x1, x2, x3, xd, xl, xc, aa, ac, e, hp, AskVP.stays (fun b h => Nat.le_trans hB h) lr (fun b _ _ => rfl) _ _ ha, fun A h => Nat.le_trans hB (hb A h)⟩
theorem EvV.ofJob {w : World} {y : Evt} {B : Nat} {U : ByteArray} {P a b c x0 : Int} {x1 x2 : ByteArray} {x3 : Int} {xd : Option Addr} {xl xc : Nat} {aa : Option Addr} {n ac : Nat} (h : JobN B w y.job (jobVal U P a b c x0 x1 x2 x3 xd xl xc aa n ac)) : EvV w y (evVal y.kind U P a b c x0 x1 x2 x3 xd xl xc aa n ac y.n y.id y.ok) := by
 obtain ⟨z0, z1, z2, z3, zd, zl, zc, za, zm, e, hp, _⟩ := h
 refine ⟨z0, z1, z2, z3, zd, zl, zc, za, zm, ?_, hp⟩
 unfold jobVal at e
 simp only [Value.agg.injEq, Array.mk.injEq, List.cons.injEq, Value.int.injEq, Value.string.injEq, Value.slice.injEq, and_true, true_and] at e
 obtain ⟨rfl, rfl, rfl, rfl, rfl, rfl, rfl, rfl, rfl, ⟨rfl, rfl, rfl⟩, ⟨rfl, rfl, rfl⟩⟩ := e
 rfl
theorem EvN.ofJob {w : World} {y : Evt} {B : Nat} {U : ByteArray} {P a b c x0 : Int} {x1 x2 : ByteArray} {x3 : Int} {xd : Option Addr} {xl xc : Nat} {aa : Option Addr} {n ac : Nat} (h : JobN B w y.job (jobVal U P a b c x0 x1 x2 x3 xd xl xc aa n ac)) : EvN B w y (evVal y.kind U P a b c x0 x1 x2 x3 xd xl xc aa n ac y.n y.id y.ok) := ⟨_, _, _, _, _, _, _, _, _, _, _, _, _, _, _, rfl, h⟩
theorem EvN.toV {B : Nat} {w : World} {x : Evt} {v : Value} (h : EvN B w x v) : EvV w x v := by
 obtain ⟨U, P, a, b, c, x0, x1, x2, x3, xd, xl, xc, aa, n, ac, rfl, h⟩ := h
 exact EvV.ofJob h
theorem keep_enc (y : Evt) (b : Bs) : keep (some y) b = if y.fault = 0 ∧ y.enc = b then some y else none := by
 unfold keep Evt.enc
 simp only
 by_cases h : y.fault = 0
 ·rw [if_pos h]
 ·rw [if_neg (fun e => h e.1), if_neg (fun e => h e.1)]
theorem zsize : zJb.ask.size ≤ 1000000000 := by decide
theorem first_size {k : Nat} {r : Bs} {y : Evt} (h : first k r = some y) : y.job.ask.size ≤ 1000000000 := by
 unfold first at h
 split at h
 ·split at h
  ·rename_i j hj
   injection h with h
   subst h
   exact rd_size hj
  ·cases h
 ·split at h
  ·injection h with h; subst h; exact zsize
  ·split at h
   ·injection h with h; subst h; exact zsize
   ·split at h
    ·injection h with h; subst h; exact zsize
    ·injection h with h; subst h; exact zsize
def JobQ (p : Nat → Prop) (w : World) (j : Jb) (v : Value) : Prop := ∃ (x0 : Int) (x1 x2 : ByteArray) (x3 : Int) (xd : Option Addr) (xl xc : Nat) (aa : Option Addr) (ac : Nat), v = jobVal (bts j.user) j.prio j.a j.b j.c x0 x1 x2 x3 xd xl xc aa j.after.length ac ∧ JobP w j x0 x1 x2 x3 xd xl xc aa ac ∧ AskVP p w j.ask (.agg #[.int .i64 x0, .string x1, .string x2, .int .i64 x3, .slice xd xl xc]) ∧ (0 < j.after.length → ∀ A, aa = some A → p A.block)
theorem JobQ.keep {p q : Nat → Prop} {w w' : World} {j : Jb} {v : Value} (h : JobQ p w j v) (hpq : ∀ b, p b → q b) (hs : w.heap.size ≤ w'.heap.size) (he : ∀ b, p b → b < w.heap.size → w'.heap[b]? = w.heap[b]?) : JobQ q w' j v := by
 obtain ⟨x0, x1, x2, x3, xd, xl, xc, aa, ac, e, hp, ha, hb⟩ := h
 have ha' := AskVP.stays hpq hs he _ _ ha
 refine ⟨x0, x1, x2, x3, xd, xl, xc, aa, ac, e, ⟨AskVP.toV _ _ ha', fun hl => ?_, hp.user, hp.len, hp.cap⟩, ha', fun hl A hA => hpq _ (hb hl A hA)⟩
 obtain ⟨b, off, e2, hlt, hc⟩ := hp.aft hl
 have hl' : 0 < j.after.length := by rw [ints_len] at hl; exact hl
 exact ⟨b, off, e2, Nat.lt_of_lt_of_le hlt hs, fun i v hv => (World.cell?_of_block (a := ⟨b, off + i, none⟩) (he b (hb hl' _ e2) hlt)).trans (hc i v hv)⟩
theorem JobN.toQ {B : Nat} {w : World} {j : Jb} {v : Value} (h : JobN B w j v) : JobQ (fun b => B ≤ b ∧ b < w.heap.size) w j v := by
 obtain ⟨x0, x1, x2, x3, xd, xl, xc, aa, ac, e, hp, ha, hb⟩ := h
 refine ⟨x0, x1, x2, x3, xd, xl, xc, aa, ac, e, hp, AskVP.lt' _ _ ha, fun hl A hA => ⟨hb A hA, ?_⟩⟩
 obtain ⟨b, off, e2, hlt, _⟩ := hp.aft (by rw [ints_len]; exact hl)
 rw [e2] at hA
 injection hA with hA
 rw [← hA]
 exact hlt
def EvP (p : Nat → Prop) (w : World) (x : Evt) (v : Value) : Prop := ∃ (U : ByteArray) (P a b c x0 : Int) (x1 x2 : ByteArray) (x3 : Int) (xd : Option Addr) (xl xc : Nat) (aa : Option Addr) (n ac : Nat), v = evVal x.kind U P a b c x0 x1 x2 x3 xd xl xc aa n ac x.n x.id x.ok ∧ JobQ p w x.job (jobVal U P a b c x0 x1 x2 x3 xd xl xc aa n ac)
theorem EvP.keep {p q : Nat → Prop} {w w' : World} {x : Evt} {v : Value} (h : EvP p w x v) (hpq : ∀ b, p b → q b) (hs : w.heap.size ≤ w'.heap.size) (he : ∀ b, p b → b < w.heap.size → w'.heap[b]? = w.heap[b]?) : EvP q w' x v := by
 obtain ⟨U, P, a, b, c, x0, x1, x2, x3, xd, xl, xc, aa, n, ac, e, h⟩ := h
 exact ⟨U, P, a, b, c, x0, x1, x2, x3, xd, xl, xc, aa, n, ac, e, h.keep hpq hs he⟩
theorem EvP.toV {p : Nat → Prop} {w : World} {x : Evt} {v : Value} (h : EvP p w x v) : EvV w x v := by
 obtain ⟨U, P, a, b, c, x0, x1, x2, x3, xd, xl, xc, aa, n, ac, rfl, z0, z1, z2, z3, zd, zl, zc, za, zm, e, hp, _⟩ := h
 refine ⟨z0, z1, z2, z3, zd, zl, zc, za, zm, ?_, hp⟩
 unfold jobVal at e
 simp only [Value.agg.injEq, Array.mk.injEq, List.cons.injEq, Value.int.injEq, Value.string.injEq, Value.slice.injEq, and_true, true_and] at e
 obtain ⟨rfl, rfl, rfl, rfl, rfl, rfl, rfl, rfl, rfl, ⟨rfl, rfl, rfl⟩, ⟨rfl, rfl, rfl⟩⟩ := e
 rfl
def cel (v : Value) : List Value := v.cells.toList
theorem EvP.cel_len {p : Nat → Prop} {w : World} {x : Evt} {v : Value} (h : EvP p w x v) : (cel v).length = 15 := by
 obtain ⟨U, P, a, b, c, x0, x1, x2, x3, xd, xl, xc, aa, n, ac, rfl, _⟩ := h
 rfl
structure EvsQ (H : Nat) (w : World) (v : Value) (L : List Evt) (vs : List Value) : Prop where
 own : w.ownsRow H 40 15 v L.length (vs.flatMap cel)
 len : vs.length = L.length
 ev : ∀ (i : Nat) (y : Evt) (u : Value), L[i]? = some y → vs[i]? = some u → EvP (fun b => some b ≠ v.ownBlock ∧ b < w.heap.size) w y u
theorem EvsQ.nil (H : Nat) (w : World) : EvsQ H w (.slice none 0 0) [] [] := ⟨World.ownsRow_nil _ _ _ _, rfl, fun i y u h => by simp at h⟩
theorem EvsQ.step {H : Nat} {w w' : World} {v : Value} {L : List Evt} {vs : List Value} (h : EvsQ H w v L vs) (hb : Below w.heap.size w w') : EvsQ H w' v L vs :=
 ⟨ownsRow_below h.own hb, h.len, fun i y u hy hu => (h.ev i y u hy hu).keep (fun b hb' => ⟨hb'.1, Nat.lt_of_lt_of_le hb'.2 hb.size⟩) hb.size (fun b _ hlt => hb.block b hlt)⟩
theorem EvsQ.low {H H' : Nat} {w : World} {v : Value} {L : List Evt} {vs : List Value} (h : EvsQ H w v L vs) (hh : H' ≤ H) : EvsQ H' w v L vs := ⟨ownsRow_low h.own hh, h.len, h.ev⟩
theorem snoc_at {α : Type _} {L : List α} {x : α} {i : Nat} {y : α} (h : (L ++ [x])[i]? = some y) : L[i]? = some y ∨ (i = L.length ∧ y = x) := by
 by_cases hi : i < L.length
 ·rw [List.getElem?_append_left hi] at h
  exact .inl h
 ·rw [List.getElem?_append_right (by omega)] at h
  cases hd : i - L.length with
  | zero => rw [hd] at h; simp at h; exact .inr ⟨by omega, h.symm⟩
  | succ k => rw [hd] at h; simp at h
theorem EvsQ.push {H B : Nat} {w1 w2 : World} {v : Value} {L : List Evt} {vs : List Value} {x : Evt} {u : Value} {g cp : Nat} (h : EvsQ H w1 v L vs) (hB : ∀ k, v.ownBlock = some k → k < B) (hx : EvP (fun b => B ≤ b ∧ b < w1.heap.size) w1 x u)
  (ho : w2.ownsRow H 40 15 (.slice (some ⟨g, 0, none⟩) (L.length + 1) cp) (L.length + 1) (vs.flatMap cel ++ cel u)) (hg : w1.grownBy w2 v.ownBlock) (hgb : v.ownBlock = some g ∨ w1.heap.size ≤ g) : EvsQ H w2 (.slice (some ⟨g, 0, none⟩) (L.length + 1) cp) (L ++ [x]) (vs ++ [u]) := by
 have hgs : ∀ b, some b ≠ v.ownBlock → b < w1.heap.size → some b ≠ (Value.slice (some ⟨g, 0, none⟩) (L.length + 1) cp).ownBlock := fun b h1 h2 e => by
  simp only [Value.ownBlock] at e
  rcases hgb with h3 | h3
  ·exact h1 (e.trans h3.symm)
  ·injection e with e
   omega
 refine ⟨?_, by simp [h.len], fun i y z hy hz => ?_⟩
 ·rw [List.length_append, List.length_singleton, List.flatMap_append]
  simpa using ho
 ·rcases snoc_at hy with hy | ⟨hi, rfl⟩
  ·have hil : i < vs.length := by rw [h.len]; exact (List.getElem?_eq_some_iff.1 hy).1
   rw [List.getElem?_append_left hil] at hz
   exact (h.ev i y z hy hz).keep (fun b hb => ⟨hgs b hb.1 hb.2, Nat.lt_of_lt_of_le hb.2 hg.size⟩) hg.size (fun b hb hlt => hg.block b hlt hb.1)
  ·subst hi
   rw [← h.len, List.getElem?_append_right lr, Nat.sub_self] at hz
   simp at hz
   subst hz
   have hne : ∀ b, B ≤ b → some b ≠ v.ownBlock := fun b hb e => by have := hB b e.symm; omega
   exact hx.keep (fun b hb => ⟨hgs b (hne b hb.1) hb.2, Nat.lt_of_lt_of_le hb.2 hg.size⟩) hg.size (fun b hb hlt => hg.block b hlt (hne b hb.1))
theorem flat_at : ∀ (vs : List Value), (∀ u, u ∈ vs → (cel u).length = 15) → ∀ (i : Nat) (u : Value) (k : Nat) (c : Value), vs[i]? = some u → (cel u)[k]? = some c → (vs.flatMap cel)[i * 15 + k]? = some c
 | [], _, i, u, k, c, h, _ => by simp at h
 | v :: vs, hl, 0, u, k, c, h, hc => by
  simp at h
  subst h
  rw [List.flatMap_cons, Nat.zero_mul, Nat.zero_add, List.getElem?_append_left (List.getElem?_eq_some_iff.1 hc).1]
  exact hc
 | v :: vs, hl, i + 1, u, k, c, h, hc => by
  have h15 := hl v (by simp)
  rw [List.flatMap_cons, List.getElem?_append_right (by omega), h15]
  have e : (i + 1) * 15 + k - 15 = i * 15 + k := by omega
  rw [e]
  exact flat_at vs (fun u hu => hl u (by simp [hu])) i u k c (by simpa using h) hc
theorem EvsQ.cel15 {H : Nat} {w : World} {v : Value} {L : List Evt} {vs : List Value} (h : EvsQ H w v L vs) : ∀ u, u ∈ vs → (cel u).length = 15 := fun u hu => by
 obtain ⟨i, hi⟩ := List.getElem?_of_mem hu
 have hil : i < L.length := by rw [← h.len]; exact (List.getElem?_eq_some_iff.1 hi).1
 exact (h.ev i _ u (List.getElem?_eq_getElem hil) hi).cel_len
end Go.Proofs.YtkemlckmfgacdaaGreatDoor
