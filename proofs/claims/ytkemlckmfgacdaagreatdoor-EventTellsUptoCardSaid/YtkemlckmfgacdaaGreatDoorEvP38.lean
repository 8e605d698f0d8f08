/- Both readers of a job, at every text. -/
import Derived.Test.YtkemlckmfgacdaaGreatDoorEvP37
import Derived.Test.YtkemlckmfgacdaaGreatDoorEvP35
import Derived.Test.YtkemlckmfgacdaaGreatDoorEvP12
import Derived.Test.YtkemlckmfgacdaaGreatDoorEvP21
import Derived.Test.YtkemlckmfgacdaaGreatDoorEvP34
namespace Go.Proofs.YtkemlckmfgacdaaGreatDoor
open Go.ChangeShapes Go.WideShapes Go.ChangeAt Go.RowKit
set_option linter.unusedVariables false
set_option linter.unusedSimpArgs false
open Tp Jm
theorem own_few {num : Bs → Option Int} {askr : Bs → Option Ask} {s : Bs} (h : (Nt.pcs 32 s).length ≠ 5) : own (parse num askr s) s = none := by
  unfold parse
  split
  · rename_i e; rw [e] at h; exact absurd rfl h
  · rfl
theorem five_pcs {l : List Bs} (h : l.length = 5) : ∃ u p n f x, l = [u, p, n, f, x] := by
  match l, h with
  | [u, p, n, f, x], _ => exact ⟨u, p, n, f, x, rfl⟩
theorem jobRead_any (s : Bs) (w : World) (he : Env w) : Calls Tryz.prog 7 #[.string (bts s)] w (JobRdQ w (if 3000 < s.length then none else rdA s) (if 3000 < s.length then 2 else 3)) := by
  by_cases hl : 3000 < s.length
  · rw [if_pos hl, if_pos hl]; exact jobRead_long s w hl
  rw [if_neg hl, if_neg hl]
  by_cases h5 : (Nt.pcs 32 s).length = 5
  · obtain ⟨u, p, n, f, x, e⟩ := five_pcs h5
    exact jobRead_five s w (by omega) he e
  · rw [show rdA s = none from own_few h5]
    exact jobRead_few s w (by omega) he h5
theorem jobReadR_any (s : Bs) (w : World) (h : s.length ≤ 2000 ∨ 3000 < s.length) : Calls Tryz.prog 11 #[.string (bts s)] w (JobRdQ w (if 3000 < s.length then none else rdA s) (if 3000 < s.length then 2 else 3)) := by
  by_cases hl : 3000 < s.length
  · rw [if_pos hl, if_pos hl]; exact jobReadR_long s w hl
  rw [if_neg hl, if_neg hl, rd_same (by omega)]
  by_cases h5 : (Nt.pcs 32 s).length = 5
  · obtain ⟨u, p, n, f, x, e⟩ := five_pcs h5
    exact jobReadR_five s w (by omega) e
  · rw [show rdR s = none from own_few h5]
    exact jobReadR_few s w (by omega) h5
end Go.Proofs.YtkemlckmfgacdaaGreatDoor
namespace Go.Proofs.YtkemlckmfgacdaaGreatDoor
open Go.ChangeShapes Go.WideShapes Go.ChangeAt Go.RowKit
set_option linter.unusedVariables false
set_option linter.unusedSimpArgs false
open Tp Jm Ev
def DecQ (w : World) (o : Option Evt) (code : Int) (e : Ending) (w' : World) : Prop := Below w.heap.size w w' ∧ match o with
  | some x => ∃ v, e = .returned (.tuple #[v, .int .i64 0]) ∧ EvV w' x v
  | none => e = .returned (.tuple #[evVal 0 ⟨#[]⟩ 0 0 0 0 0 ⟨#[]⟩ ⟨#[]⟩ 0 none 0 0 none 0 0 0 0 false, .int .i64 code])
theorem BoxV.drewN {c : Nat} {vs : List Value} {w : World} (h : BoxV c vs w) (q : Nat) : BoxV c vs (w.drewN q) := h.step (below_drewN (Below.refl _ _) q)
theorem JobP.puts {w : World} {j : Jb} {x0 : Int} {x1 x2 : ByteArray} {x3 : Int} {xd : Option Addr} {xl xc : Nat} {aa : Option Addr} {ac : Nat} (h : JobP w j x0 x1 x2 x3 xd xl xc aa ac) {C : Nat} (W : World) (hb : Below C w W) (hC : w.heap.size ≤ C) : JobP W j x0 x1 x2 x3 xd xl xc aa ac := h.below (hb.mono hC)
theorem rd_size {s : Bs} {j : Jb} (h : rdA s = some j) : j.ask.size ≤ 1000000000 := by
  have hf := (own_rd h).1
  have h4 := (fault_parts hf).2.2.2.1
  have hg := Ar.fault_good h4
  omega
theorem JobN.zero (B : Nat) (w : World) : JobN B w zJb (jobVal ⟨#[]⟩ 0 0 0 0 0 ⟨#[]⟩ ⟨#[]⟩ 0 none 0 0 none 0 0) := ⟨_, _, _, _, _, _, _, _, _, rfl, JobP.zero w, leaf_vp 0 [] [] 0 (by simp) (by simp), fun A h => by cases h⟩
theorem JobN.low {B B' : Nat} {w : World} {j : Jb} {v : Value} (h : JobN B w j v) (hB : B' ≤ B) : JobN B' w j v := by
  obtain ⟨x0, x1, x2, x3, xd, xl, xc, aa, ac, e, hp, ha, hb⟩ := h
  exact ⟨x0, x1, x2, x3, xd, xl, xc, aa, ac, e, hp, AskVP.stays (fun b h => Nat.le_trans hB h) (Nat.le_refl _) (fun b _ _ => rfl) _ _ ha, fun A h => Nat.le_trans hB (hb A h)⟩
theorem EvV.ofJob {w : World} {y : Evt} {B : Nat} {U : ByteArray} {P a b c x0 : Int} {x1 x2 : ByteArray} {x3 : Int} {xd : Option Addr} {xl xc : Nat} {aa : Option Addr} {n ac : Nat} (h : JobN B w y.job (jobVal U P a b c x0 x1 x2 x3 xd xl xc aa n ac)) : EvV w y (evVal y.kind U P a b c x0 x1 x2 x3 xd xl xc aa n ac y.n y.id y.ok) := by
  obtain ⟨z0, z1, z2, z3, zd, zl, zc, za, zm, e, hp, _⟩ := h
  refine ⟨z0, z1, z2, z3, zd, zl, zc, za, zm, ?_, hp⟩
  unfold jobVal at e
  simp only [Value.agg.injEq, Array.mk.injEq, List.cons.injEq, Value.int.injEq, Value.string.injEq, Value.slice.injEq, and_true, true_and] at e
  obtain ⟨rfl, rfl, rfl, rfl, rfl, rfl, rfl, rfl, rfl, ⟨rfl, rfl, rfl⟩, ⟨rfl, rfl, rfl⟩⟩ := e
  rfl
theorem keep_enc (y : Evt) (b : Bs) : keep (some y) b = if y.fault = 0 ∧ y.enc = b then some y else none := by
  unfold keep Evt.enc
  simp only
  by_cases h : y.fault = 0
  · rw [if_pos h]
  · rw [if_neg (fun e => h e.1), if_neg (fun e => h e.1)]
theorem zsize : zJb.ask.size ≤ 1000000000 := by decide
theorem first_size {k : Nat} {r : Bs} {y : Evt} (h : first k r = some y) : y.job.ask.size ≤ 1000000000 := by
  unfold first at h
  split at h
  · split at h
    · rename_i j hj
      injection h with h
      subst h
      exact rd_size hj
    · cases h
  · split at h
    · injection h with h; subst h; exact zsize
    · split at h
      · injection h with h; subst h; exact zsize
      · split at h
        · injection h with h; subst h; exact zsize
        · injection h with h; subst h; exact zsize
end Go.Proofs.YtkemlckmfgacdaaGreatDoor
