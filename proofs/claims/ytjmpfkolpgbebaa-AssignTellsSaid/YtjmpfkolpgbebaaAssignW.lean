/- The costs and the solver in memory. -/
import Derived.Test.YtjmpfkolpgbebaaOwn
import Derived.Test.YtjmpfkolpgbebaaAssignT
import Derived.Test.YtjmpfkolpgbebaaAssignC
import Derived.Deep.LoopGhost
import Derived.Deep.CutBlock
import Derived.Deep.DeepCutAuto
import Derived.Deep.MidRow
import Derived.RegionTactic
import Derived.BigRegion
namespace Go.Proofs.Ytjmpfkolpgbebaa
open Go.ChangeShapes Go.WideShapes Go.ChangeAt Go.RowKit
set_option linter.unusedVariables false
open As
def i64s (f : Nat → Int) (i : Nat) : Value := .int .i64 (f i)
def natsI (f : Nat → Nat) (i : Nat) : Value := .int .i64 ((f i : Nat) : Int)
def bools (f : Nat → Bool) (i : Nat) : Value := .bool (f i)
def ints64 (L : List Int) : List Value := L.map (.int .i64)
theorem infoI64 : (Try.prog.info? 2).map (fun i => (i.zero, i.size, i.bytes)) = some (some (.int .i64 0), 1, 8) := by kernel_rfl
theorem infoInt : (Try.prog.info? 3).map (fun i => (i.zero, i.size, i.bytes)) = some (some (.int .i64 0), 1, 8) := by kernel_rfl
theorem infoBool : (Try.prog.info? 4).map (fun i => (i.zero, i.size, i.bytes)) = some (some (.bool false), 1, 1) := by kernel_rfl
/-- a row of rows of numbers lies at a -/
def Tbl (w : World) (a : Option Addr) (R : List (List Int)) : Prop := 0 < R.length → ∃ b off, a = some ⟨b, off, none⟩ ∧ b < w.heap.size ∧ ∀ i r, R[i]? = some r → ∃ ra rc, w.cell? ⟨b, off + i, none⟩ = some (.slice ra r.length rc) ∧ r.length ≤ rc ∧ rc ≤ 9223372036854775807 ∧ Vals w ra (ints64 r)
theorem Tbl.below {w w' : World} {a : Option Addr} {R : List (List Int)} (h : Tbl w a R) {B : Nat} (hb : Below B w w') (hB : w.heap.size ≤ B) : Tbl w' a R := fun hl => by
  obtain ⟨b, off, e, h1, h2⟩ := h hl
  refine ⟨b, off, e, Nat.lt_of_lt_of_le h1 hb.size, fun i r hr => ?_⟩
  obtain ⟨ra, rc, g1, g2, g3, g4⟩ := h2 i r hr
  exact ⟨ra, rc, (hb.cell (p := ⟨b, _, none⟩) (Nat.lt_of_lt_of_le h1 hB)).trans g1, g2, g3, g4.below hb hB⟩
def cst (R : List (List Int)) (p k : Nat) : Int := ((R[p]?).getD []).getD k 0
/-- one cost, as it lies there -/
theorem Tbl.at' {w : World} {a : Option Addr} {R : List (List Int)} {n p k : Nat} (h : Tbl w a R) (hn : n = R.length) (hsq : ∀ r, r ∈ R → r.length = n) (hp : p < n) (hk : k < n) : ∃ b off rb ro rc, a = some ⟨b, off, none⟩ ∧ b < w.heap.size ∧ w.cell? ⟨b, off + p, none⟩ = some (.slice (some ⟨rb, ro, none⟩) n rc) ∧ n ≤ rc ∧ rc ≤ 9223372036854775807 ∧ rb < w.heap.size ∧ w.cell? ⟨rb, ro + k, none⟩ = some (.int .i64 (cst R p k)) := by
  obtain ⟨b, off, e, h1, h2⟩ := h (by omega)
  have hpr : p < R.length := by omega
  obtain ⟨ra, rc, g1, g2, g3, g4⟩ := h2 p R[p] (List.getElem?_eq_getElem hpr)
  have hl := hsq R[p] (List.getElem_mem hpr)
  rw [hl] at g1 g2
  obtain ⟨rb, ro, e2, g5, g6⟩ := g4 (by simp [ints64]; omega)
  refine ⟨b, off, rb, ro, rc, e, h1, by rw [g1, e2], g2, g3, g5, g6 k _ ?_⟩
  have hkr : k < R[p].length := by omega
  simp [ints64, cst, hpr, hkr, List.getD_eq_getElem?_getD]
def solF (a : Option Addr) (n cap gu gv gb : Nat) (i : Nat) : Value :=
  if i = 0 then .slice a n cap else if i = 1 then .slice (some ⟨gu, 0, none⟩) (n + 1) (n + 1) else if i = 2 then .slice (some ⟨gv, 0, none⟩) (n + 1) (n + 1) else .slice (some ⟨gb, 0, none⟩) (n + 1) (n + 1)
/-- the solver -/
structure SW (n gs gu gv gb : Nat) (a : Option Addr) (cap : Nat) (u v : Nat → Int) (b : Nat → Nat) (w wr : World) : Prop where
  var : wr.rowIs gs 41 4 (solF a n cap gu gv gb)
  ru : wr.rowIs gu 2 (n + 1) (i64s u)
  rv : wr.rowIs gv 2 (n + 1) (i64s v)
  rb : wr.rowIs gb 3 (n + 1) (natsI b)
  ne1 : gs ≠ gu
  ne2 : gs ≠ gv
  ne3 : gs ≠ gb
  ne4 : gu ≠ gv
  ne5 : gu ≠ gb
  ne6 : gv ≠ gb
  l1 : w.heap.size ≤ gs
  l2 : w.heap.size ≤ gu
  l3 : w.heap.size ≤ gv
  l4 : w.heap.size ≤ gb
  below : Below w.heap.size w wr
section
variable {n gs gu gv gb : Nat} {a : Option Addr} {cap : Nat} {u v : Nat → Int} {b : Nat → Nat} {w wr w' : World}
theorem SW.step (h : SW n gs gu gv gb a cap u v b w wr) (hb : Below wr.heap.size wr w') : SW n gs gu gv gb a cap u v b w w' :=
  ⟨rowIs_below h.var hb h.var.lt, rowIs_below h.ru hb h.ru.lt, rowIs_below h.rv hb h.rv.lt, rowIs_below h.rb hb h.rb.lt, h.ne1, h.ne2, h.ne3, h.ne4, h.ne5, h.ne6, h.l1, h.l2, h.l3, h.l4, h.below.trans (hb.mono h.below.size)⟩
/-- a store elsewhere in new memory -/
theorem SW.other (h : SW n gs gu gv gb a cap u v b w wr) {g i : Nat} {y : Value} (hg : w.heap.size ≤ g) (h1 : gs ≠ g) (h2 : gu ≠ g) (h3 : gv ≠ g) (h4 : gb ≠ g) : SW n gs gu gv gb a cap u v b w (wr.setCell ⟨g, i, none⟩ y) :=
  ⟨h.var.setOther h1 _, h.ru.setOther h2 _, h.rv.setOther h3 _, h.rb.setOther h4 _, h.ne1, h.ne2, h.ne3, h.ne4, h.ne5, h.ne6, h.l1, h.l2, h.l3, h.l4, h.below.setCell (p := ⟨g, i, none⟩) hg _⟩
theorem SW.setB (h : SW n gs gu gv gb a cap u v b w wr) (k x : Nat) : SW n gs gu gv gb a cap u v (put b k x) w (wr.setCell ⟨gb, k, none⟩ (.int .i64 (x : Int))) :=
  ⟨h.var.setOther h.ne3 _, h.ru.setOther h.ne5 _, h.rv.setOther h.ne6 _, (h.rb.set k (.int .i64 (x : Int))).congr (fun j _ => by unfold natsI put; split <;> rfl), h.ne1, h.ne2, h.ne3, h.ne4, h.ne5, h.ne6, h.l1, h.l2, h.l3, h.l4, h.below.setCell (p := ⟨gb, k, none⟩) h.l4 _⟩
theorem SW.setU (h : SW n gs gu gv gb a cap u v b w wr) (k : Nat) (x : Int) : SW n gs gu gv gb a cap (put u k x) v b w (wr.setCell ⟨gu, k, none⟩ (.int .i64 x)) :=
  ⟨h.var.setOther h.ne1 _, (h.ru.set k (.int .i64 x)).congr (fun j _ => by unfold i64s put; split <;> rfl), h.rv.setOther (Ne.symm h.ne4) _, h.rb.setOther (Ne.symm h.ne5) _, h.ne1, h.ne2, h.ne3, h.ne4, h.ne5, h.ne6, h.l1, h.l2, h.l3, h.l4, h.below.setCell (p := ⟨gu, k, none⟩) h.l2 _⟩
theorem SW.setV (h : SW n gs gu gv gb a cap u v b w wr) (k : Nat) (x : Int) : SW n gs gu gv gb a cap u (put v k x) b w (wr.setCell ⟨gv, k, none⟩ (.int .i64 x)) :=
  ⟨h.var.setOther h.ne2 _, h.ru.setOther h.ne4 _, (h.rv.set k (.int .i64 x)).congr (fun j _ => by unfold i64s put; split <;> rfl), h.rb.setOther (Ne.symm h.ne6) _, h.ne1, h.ne2, h.ne3, h.ne4, h.ne5, h.ne6, h.l1, h.l2, h.l3, h.l4, h.below.setCell (p := ⟨gv, k, none⟩) h.l3 _⟩
end
/-- the solver and the three rows of a search -/
structure PW (n gs gu gv gb gl gf gk : Nat) (a : Option Addr) (cap : Nat) (u v : Nat → Int) (b : Nat → Nat) (low : Nat → Int) (fr : Nat → Nat) (seen : Nat → Bool) (w wr : World) : Prop where
  sw : SW n gs gu gv gb a cap u v b w wr
  rl : wr.rowIs gl 2 (n + 1) (i64s low)
  rf : wr.rowIs gf 3 (n + 1) (natsI fr)
  rk : wr.rowIs gk 4 (n + 1) (bools seen)
  n1 : gl ≠ gf
  n2 : gl ≠ gk
  n3 : gf ≠ gk
  hl : gs < gl ∧ gu < gl ∧ gv < gl ∧ gb < gl
  hf : gs < gf ∧ gu < gf ∧ gv < gf ∧ gb < gf
  hk : gs < gk ∧ gu < gk ∧ gv < gk ∧ gb < gk
section
variable {n gs gu gv gb gl gf gk : Nat} {a : Option Addr} {cap : Nat} {u v low : Nat → Int} {b fr : Nat → Nat} {seen : Nat → Bool} {w wr w' : World}
theorem PW.step (h : PW n gs gu gv gb gl gf gk a cap u v b low fr seen w wr) (hb : Below wr.heap.size wr w') : PW n gs gu gv gb gl gf gk a cap u v b low fr seen w w' :=
  ⟨h.sw.step hb, rowIs_below h.rl hb h.rl.lt, rowIs_below h.rf hb h.rf.lt, rowIs_below h.rk hb h.rk.lt, h.n1, h.n2, h.n3, h.hl, h.hf, h.hk⟩
theorem PW.drewN (h : PW n gs gu gv gb gl gf gk a cap u v b low fr seen w wr) (q : Nat) : PW n gs gu gv gb gl gf gk a cap u v b low fr seen w (wr.drewN q) := h.step (below_drewN (Below.refl _ _) q)
theorem PW.setL (h : PW n gs gu gv gb gl gf gk a cap u v b low fr seen w wr) (k : Nat) (x : Int) : PW n gs gu gv gb gl gf gk a cap u v b (put low k x) fr seen w (wr.setCell ⟨gl, k, none⟩ (.int .i64 x)) :=
  ⟨h.sw.other (by have := h.sw.l1; have := h.hl; omega) (by have := h.hl; omega) (by have := h.hl; omega) (by have := h.hl; omega) (by have := h.hl; omega), (h.rl.set k (.int .i64 x)).congr (fun j _ => by unfold i64s put; split <;> rfl), h.rf.setOther (Ne.symm h.n1) _, h.rk.setOther (Ne.symm h.n2) _, h.n1, h.n2, h.n3, h.hl, h.hf, h.hk⟩
theorem PW.setF (h : PW n gs gu gv gb gl gf gk a cap u v b low fr seen w wr) (k x : Nat) : PW n gs gu gv gb gl gf gk a cap u v b low (put fr k x) seen w (wr.setCell ⟨gf, k, none⟩ (.int .i64 (x : Int))) :=
  ⟨h.sw.other (by have := h.sw.l1; have := h.hf; omega) (by have := h.hf; omega) (by have := h.hf; omega) (by have := h.hf; omega) (by have := h.hf; omega), h.rl.setOther h.n1 _, (h.rf.set k (.int .i64 (x : Int))).congr (fun j _ => by unfold natsI put; split <;> rfl), h.rk.setOther (Ne.symm h.n3) _, h.n1, h.n2, h.n3, h.hl, h.hf, h.hk⟩
theorem PW.setS (h : PW n gs gu gv gb gl gf gk a cap u v b low fr seen w wr) (k : Nat) : PW n gs gu gv gb gl gf gk a cap u v b low fr (se seen k) w (wr.setCell ⟨gk, k, none⟩ (.bool true)) :=
  ⟨h.sw.other (by have := h.sw.l1; have := h.hk; omega) (by have := h.hk; omega) (by have := h.hk; omega) (by have := h.hk; omega) (by have := h.hk; omega), h.rl.setOther h.n2 _, h.rf.setOther h.n3 _, (h.rk.set k (.bool true)).congr (fun j _ => by unfold bools se; split <;> rfl), h.n1, h.n2, h.n3, h.hl, h.hf, h.hk⟩
theorem PW.setB (h : PW n gs gu gv gb gl gf gk a cap u v b low fr seen w wr) (k x : Nat) : PW n gs gu gv gb gl gf gk a cap u v (put b k x) low fr seen w (wr.setCell ⟨gb, k, none⟩ (.int .i64 (x : Int))) :=
  ⟨h.sw.setB k x, h.rl.setOther (by have := h.hl; simp only; omega) _, h.rf.setOther (by have := h.hf; simp only; omega) _, h.rk.setOther (by have := h.hk; simp only; omega) _, h.n1, h.n2, h.n3, h.hl, h.hf, h.hk⟩
theorem PW.setU (h : PW n gs gu gv gb gl gf gk a cap u v b low fr seen w wr) (k : Nat) (x : Int) : PW n gs gu gv gb gl gf gk a cap (put u k x) v b low fr seen w (wr.setCell ⟨gu, k, none⟩ (.int .i64 x)) :=
  ⟨h.sw.setU k x, h.rl.setOther (by have := h.hl; simp only; omega) _, h.rf.setOther (by have := h.hf; simp only; omega) _, h.rk.setOther (by have := h.hk; simp only; omega) _, h.n1, h.n2, h.n3, h.hl, h.hf, h.hk⟩
theorem PW.setV (h : PW n gs gu gv gb gl gf gk a cap u v b low fr seen w wr) (k : Nat) (x : Int) : PW n gs gu gv gb gl gf gk a cap u (put v k x) b low fr seen w (wr.setCell ⟨gv, k, none⟩ (.int .i64 x)) :=
  ⟨h.sw.setV k x, h.rl.setOther (by have := h.hl; simp only; omega) _, h.rf.setOther (by have := h.hf; simp only; omega) _, h.rk.setOther (by have := h.hk; simp only; omega) _, h.n1, h.n2, h.n3, h.hl, h.hf, h.hk⟩
/-- the same, its contents said otherwise -/
theorem PW.congr (h : PW n gs gu gv gb gl gf gk a cap u v b low fr seen w wr) {low' : Nat → Int} {fr' : Nat → Nat} (e1 : low' = low) (e2 : fr' = fr) : PW n gs gu gv gb gl gf gk a cap u v b low' fr' seen w wr := by rw [e1, e2]; exact h
end
end Go.Proofs.Ytjmpfkolpgbebaa
