/- Contract: jobs of a graph for several hands; the program's. -/
import Derived.Test.YtfjoakhcgpckgaaListReady
import Derived.Deep.LoopGhost
import Derived.Deep.DeepCutAuto
namespace Go.Proofs.Ytfjoakhcgpckgaa
open Go.ChangeShapes Go.WideShapes Go.ChangeAt Go.RowKit
set_option linter.unusedVariables false
open Gr (El Tm)
open Ls
theorem run_make_rowN {P : Program} (t e : TypeId) (z : Value) (zc : Array Value) (size bytes : Nat) (ht : P.underlying t = some (.slice e)) (hinfo : (P.info? e).map (fun i => (i.zero, i.size, i.bytes)) = some (some z, size, bytes)) (hzc : z.cells = zc)
    (kl kc : IntKind) (n : Nat) (hbytes : bytes * n ≤ 281474976710656) (h63 : n ≤ 9223372036854775807) (w : World) :
    (Instr.makeSlice t (.int kl (n : Int)) (.int kc (n : Int))).run P w = .ok (.slice (some ⟨w.heap.size, 0, none⟩) n n) (w.alloc (.cells (madeCells zc (n * size)) e)) := by
  obtain ⟨i, hi, hzz⟩ := Option.map_eq_some_iff.1 hinfo
  simp only [Prod.mk.injEq] at hzz
  obtain ⟨hz, hs, hb⟩ := hzz
  have hb' : (i.bytes : Int) * (n : Int) ≤ 281474976710656 := by
    have h : ((i.bytes * n : Nat) : Int) ≤ 281474976710656 := by rw [hb]; omega
    rwa [Int.natCast_mul] at h
  have hr := run_make (P := P) w t e i z ht hi hz kl kc n n (by omega) (Int.le_refl _) hb' (by omega)
  simp only [Int.toNat_natCast, hs, hzc] at hr
  exact hr
theorem turns_made (w : World) (n : Nat) {H : Nat} (h : w.heap.size = H) : (w.alloc (.cells (madeCells #[.int .i64 0, .int .i64 0] (n * 2)) 169)).rowIs H 169 (2 * n) (turnsF (fun _ => 0) (handZ fun _ => 0)) := by
  subst h
  have h := World.rowIs_alloc w (madeCells #[.int .i64 0, .int .i64 0] (n * 2)) 169 (turnsF (fun _ => 0) (handZ fun _ => 0)) (fun i hi => by
    rw [size_madeCells] at hi
    have e : (madeCells #[Value.int .i64 0, .int .i64 0] (n * 2))[i]? = some (#[Value.int .i64 0, .int .i64 0][i % 2]!) := by simp [madeCells, hi]
    rw [e]
    unfold turnsF handZ
    have : i % 2 = 0 ∨ i % 2 = 1 := by omega
    rcases this with h | h <;> rw [h] <;> simp)
  rw [size_madeCells] at h
  rw [show 2 * n = n * 2 by omega]
  exact h
theorem infoTurn : (Try.prog.info? 169).map (fun i => (i.zero, i.size, i.bytes)) = some (some (.agg #[.int .i64 0, .int .i64 0]), 2, 16) := by kernel_rfl
theorem infoBool' : (Try.prog.info? 4).map (fun i => (i.zero, i.size, i.bytes)) = some (some (.bool false), 1, 1) := by kernel_rfl
theorem tab_row (w : World) (n m gu gb gf : Nat) (a b : Option Addr) (l cap k cap2 : Nat) {H : Nat} (h : w.heap.size = H) : (w.alloc (.cells #[.slice a l cap, .slice b k cap2, .slice (some ⟨gu, 0, none⟩) n n, .slice (some ⟨gb, 0, none⟩) n n, .slice (some ⟨gf, 0, none⟩) m m] 163)).rowIs H 163 5 (tabF n m gu gb gf a b l cap k cap2) := by
  subst h
  refine World.rowIs_alloc w _ _ _ fun i hi => ?_
  have hi : i < 5 := hi
  have : i = 0 ∨ i = 1 ∨ i = 2 ∨ i = 3 ∨ i = 4 := by omega
  rcases this with rfl | rfl | rfl | rfl | rfl <;> rfl
theorem tab_make {m n gt gu gb gf : Nat} {a b : Option Addr} {l cap k cap2 : Nat} {w wr : World} (hv : wr.rowIs gt 163 5 (tabF n m gu gb gf a b l cap k cap2)) (hu : wr.rowIs gu 169 (2 * n) (turnsF (fun _ => 0) (handZ fun _ => 0))) (hb : wr.rowIs gb 4 n (fun _ => .bool false)) (hf : wr.rowIs gf 2 m (fun _ => .int .i64 0))
    (h1 : w.heap.size ≤ gu) (h2 : w.heap.size ≤ gb) (h3 : w.heap.size ≤ gf) (h4 : w.heap.size ≤ gt) (e1 : gu ≠ gb) (e2 : gu ≠ gf) (e3 : gb ≠ gf) (e4 : gu < gt) (e5 : gb < gt) (e6 : gf < gt) (hB : Below w.heap.size w wr) : TW m n gt gu gb gf a b l cap k cap2 St.zero w wr.drew :=
  ⟨hv.drew, hu.drew, hb.drew, hf.drew, by omega, by omega, by omega, e1, e2, e3, h4, h1, h2, h3, hB.drew⟩
theorem tab_0 (w : World) (m n : Nat) (a b : Option Addr) (l cap k cap2 : Nat) : ∃ gt gu gb gf, Value.pointer (some ⟨w.heap.size + 1 + 1 + 1, 0, none⟩) = .pointer (some ⟨gt, 0, none⟩) ∧ TW m n gt gu gb gf a b l cap k cap2 St.zero w ((((w.alloc (.cells (madeCells #[.int .i64 0, .int .i64 0] (n * 2)) 169)).alloc (.cells (madeCells #[.bool false] n) 4)).alloc (.cells (madeCells #[.int .i64 0] m) 2)).alloc (.cells #[.slice a l cap, .slice b k cap2, .slice (some ⟨w.heap.size, 0, none⟩) n n, .slice (some ⟨(w.heap.size + 1), 0, none⟩) n n, .slice (some ⟨(w.heap.size + 1 + 1), 0, none⟩) m m] 163)).drew :=
  ⟨w.heap.size + 1 + 1 + 1, w.heap.size, (w.heap.size + 1), (w.heap.size + 1 + 1), rfl, tab_make (tab_row _ _ _ _ _ _ _ _ _ _ _ _ (by simp)) ((((turns_made _ _ rfl).alloc _).alloc _).alloc _) (((rowIs_made_at _ _ _ _ (by simp)).alloc _).alloc _) ((rowIs_made_at _ _ _ _ (by simp)).alloc _) (by omega) (by omega) (by omega) (by omega) (by omega) (by omega) (by omega) (by omega) (by omega) (by omega) (by go_grown)⟩
theorem tab_1 (w : World) (m n : Nat) (a b : Option Addr) (l cap k cap2 : Nat) : ∃ gt gu gb gf, Value.pointer (some ⟨w.heap.size + 1 + 1 + 1, 0, none⟩) = .pointer (some ⟨gt, 0, none⟩) ∧ TW m n gt gu gb gf a b l cap k cap2 St.zero w ((((w.alloc (.cells (madeCells #[.int .i64 0, .int .i64 0] (n * 2)) 169)).alloc (.cells (madeCells #[.int .i64 0] m) 2)).alloc (.cells (madeCells #[.bool false] n) 4)).alloc (.cells #[.slice a l cap, .slice b k cap2, .slice (some ⟨w.heap.size, 0, none⟩) n n, .slice (some ⟨(w.heap.size + 1 + 1), 0, none⟩) n n, .slice (some ⟨(w.heap.size + 1), 0, none⟩) m m] 163)).drew :=
  ⟨w.heap.size + 1 + 1 + 1, w.heap.size, (w.heap.size + 1 + 1), (w.heap.size + 1), rfl, tab_make (tab_row _ _ _ _ _ _ _ _ _ _ _ _ (by simp)) ((((turns_made _ _ rfl).alloc _).alloc _).alloc _) ((rowIs_made_at _ _ _ _ (by simp)).alloc _) (((rowIs_made_at _ _ _ _ (by simp)).alloc _).alloc _) (by omega) (by omega) (by omega) (by omega) (by omega) (by omega) (by omega) (by omega) (by omega) (by omega) (by go_grown)⟩
theorem tab_2 (w : World) (m n : Nat) (a b : Option Addr) (l cap k cap2 : Nat) : ∃ gt gu gb gf, Value.pointer (some ⟨w.heap.size + 1 + 1 + 1, 0, none⟩) = .pointer (some ⟨gt, 0, none⟩) ∧ TW m n gt gu gb gf a b l cap k cap2 St.zero w ((((w.alloc (.cells (madeCells #[.bool false] n) 4)).alloc (.cells (madeCells #[.int .i64 0, .int .i64 0] (n * 2)) 169)).alloc (.cells (madeCells #[.int .i64 0] m) 2)).alloc (.cells #[.slice a l cap, .slice b k cap2, .slice (some ⟨(w.heap.size + 1), 0, none⟩) n n, .slice (some ⟨w.heap.size, 0, none⟩) n n, .slice (some ⟨(w.heap.size + 1 + 1), 0, none⟩) m m] 163)).drew :=
  ⟨w.heap.size + 1 + 1 + 1, (w.heap.size + 1), w.heap.size, (w.heap.size + 1 + 1), rfl, tab_make (tab_row _ _ _ _ _ _ _ _ _ _ _ _ (by simp)) (((turns_made _ _ (by simp)).alloc _).alloc _) ((((rowIs_made_at _ _ _ _ rfl).alloc _).alloc _).alloc _) ((rowIs_made_at _ _ _ _ (by simp)).alloc _) (by omega) (by omega) (by omega) (by omega) (by omega) (by omega) (by omega) (by omega) (by omega) (by omega) (by go_grown)⟩
theorem tab_3 (w : World) (m n : Nat) (a b : Option Addr) (l cap k cap2 : Nat) : ∃ gt gu gb gf, Value.pointer (some ⟨w.heap.size + 1 + 1 + 1, 0, none⟩) = .pointer (some ⟨gt, 0, none⟩) ∧ TW m n gt gu gb gf a b l cap k cap2 St.zero w ((((w.alloc (.cells (madeCells #[.bool false] n) 4)).alloc (.cells (madeCells #[.int .i64 0] m) 2)).alloc (.cells (madeCells #[.int .i64 0, .int .i64 0] (n * 2)) 169)).alloc (.cells #[.slice a l cap, .slice b k cap2, .slice (some ⟨(w.heap.size + 1 + 1), 0, none⟩) n n, .slice (some ⟨w.heap.size, 0, none⟩) n n, .slice (some ⟨(w.heap.size + 1), 0, none⟩) m m] 163)).drew :=
  ⟨w.heap.size + 1 + 1 + 1, (w.heap.size + 1 + 1), w.heap.size, (w.heap.size + 1), rfl, tab_make (tab_row _ _ _ _ _ _ _ _ _ _ _ _ (by simp)) ((turns_made _ _ (by simp)).alloc _) ((((rowIs_made_at _ _ _ _ rfl).alloc _).alloc _).alloc _) (((rowIs_made_at _ _ _ _ (by simp)).alloc _).alloc _) (by omega) (by omega) (by omega) (by omega) (by omega) (by omega) (by omega) (by omega) (by omega) (by omega) (by go_grown)⟩
theorem tab_4 (w : World) (m n : Nat) (a b : Option Addr) (l cap k cap2 : Nat) : ∃ gt gu gb gf, Value.pointer (some ⟨w.heap.size + 1 + 1 + 1, 0, none⟩) = .pointer (some ⟨gt, 0, none⟩) ∧ TW m n gt gu gb gf a b l cap k cap2 St.zero w ((((w.alloc (.cells (madeCells #[.int .i64 0] m) 2)).alloc (.cells (madeCells #[.int .i64 0, .int .i64 0] (n * 2)) 169)).alloc (.cells (madeCells #[.bool false] n) 4)).alloc (.cells #[.slice a l cap, .slice b k cap2, .slice (some ⟨(w.heap.size + 1), 0, none⟩) n n, .slice (some ⟨(w.heap.size + 1 + 1), 0, none⟩) n n, .slice (some ⟨w.heap.size, 0, none⟩) m m] 163)).drew :=
  ⟨w.heap.size + 1 + 1 + 1, (w.heap.size + 1), (w.heap.size + 1 + 1), w.heap.size, rfl, tab_make (tab_row _ _ _ _ _ _ _ _ _ _ _ _ (by simp)) (((turns_made _ _ (by simp)).alloc _).alloc _) ((rowIs_made_at _ _ _ _ (by simp)).alloc _) ((((rowIs_made_at _ _ _ _ rfl).alloc _).alloc _).alloc _) (by omega) (by omega) (by omega) (by omega) (by omega) (by omega) (by omega) (by omega) (by omega) (by omega) (by go_grown)⟩
theorem tab_5 (w : World) (m n : Nat) (a b : Option Addr) (l cap k cap2 : Nat) : ∃ gt gu gb gf, Value.pointer (some ⟨w.heap.size + 1 + 1 + 1, 0, none⟩) = .pointer (some ⟨gt, 0, none⟩) ∧ TW m n gt gu gb gf a b l cap k cap2 St.zero w ((((w.alloc (.cells (madeCells #[.int .i64 0] m) 2)).alloc (.cells (madeCells #[.bool false] n) 4)).alloc (.cells (madeCells #[.int .i64 0, .int .i64 0] (n * 2)) 169)).alloc (.cells #[.slice a l cap, .slice b k cap2, .slice (some ⟨(w.heap.size + 1 + 1), 0, none⟩) n n, .slice (some ⟨(w.heap.size + 1), 0, none⟩) n n, .slice (some ⟨w.heap.size, 0, none⟩) m m] 163)).drew :=
  ⟨w.heap.size + 1 + 1 + 1, (w.heap.size + 1 + 1), (w.heap.size + 1), w.heap.size, rfl, tab_make (tab_row _ _ _ _ _ _ _ _ _ _ _ _ (by simp)) ((turns_made _ _ (by simp)).alloc _) (((rowIs_made_at _ _ _ _ (by simp)).alloc _).alloc _) ((((rowIs_made_at _ _ _ _ rfl).alloc _).alloc _).alloc _) (by omega) (by omega) (by omega) (by omega) (by omega) (by omega) (by omega) (by omega) (by omega) (by omega) (by go_grown)⟩
theorem leftN_all (n : Nat) : leftN n St.zero = n := by
  unfold leftN St.zero
  induction n with
  | zero => rfl
  | succ n ih => rw [many_suc, ih]; rfl
/-- the table and the clock at a state -/
structure GW (m n gt gu gb gf gn : Nat) (a b : Option Addr) (l cap k cap2 : Nat) (s : St) (w wr : World) : Prop where
  tw : TW m n gt gu gb gf a b l cap k cap2 s w wr
  now : wr.rowIs gn 2 1 (fun _ => .int .i64 s.now)
  n1 : gn ≠ gt
  n2 : gn ≠ gu
  n3 : gn ≠ gb
  n4 : gn ≠ gf
  ln : w.heap.size ≤ gn
theorem GW.step {m n gt gu gb gf gn : Nat} {a b : Option Addr} {l cap k cap2 : Nat} {s : St} {w wr w' : World} (h : GW m n gt gu gb gf gn a b l cap k cap2 s w wr) (hb : Below wr.heap.size wr w') : GW m n gt gu gb gf gn a b l cap k cap2 s w w' :=
  ⟨h.tw.step hb, rowIs_below h.now hb h.now.lt, h.n1, h.n2, h.n3, h.n4, h.ln⟩
theorem GW.wait {m n gt gu gb gf gn : Nat} {a b : Option Addr} {l cap k cap2 : Nat} {s : St} {w wr : World} (h : GW m n gt gu gb gf gn a b l cap k cap2 s w wr) (t : Int) : GW m n gt gu gb gf gn a b l cap k cap2 (s.wait t) w (wr.setCell ⟨gn, 0, none⟩ (.int .i64 t)) :=
  ⟨⟨h.tw.var.setOther (fun e => h.n1 e.symm) _, h.tw.turns.setOther (fun e => h.n2 e.symm) _, h.tw.begun.setOther (fun e => h.n3 e.symm) _, h.tw.free.setOther (fun e => h.n4 e.symm) _, h.tw.ne1, h.tw.ne2, h.tw.ne3, h.tw.ne4, h.tw.ne5, h.tw.ne6, h.tw.lt, h.tw.lu, h.tw.lb, h.tw.lf, h.tw.below.setCell h.ln _⟩, (h.now.set 0 _).congr fun i hi => by
    have : i = 0 := by omega
    subst this
    rfl, h.n1, h.n2, h.n3, h.n4, h.ln⟩
theorem turns_set {w : World} {gu n : Nat} {f g : Tm} (h : w.rowIs gu 169 (2 * n) (turnsF f g)) (i : Nat) (x y : Int) : ((w.setCell ⟨gu, 2 * i, none⟩ (.int .i64 x)).setCell ⟨gu, 2 * i + 1, none⟩ (.int .i64 y)).rowIs gu 169 (2 * n) (turnsF (setN f i x) (setN g i y)) :=
  ((h.set (2 * i) (.int .i64 x)).set (2 * i + 1) (.int .i64 y)).congr fun c _ => by
    unfold turnsF setN
    by_cases e1 : c = 2 * i + 1
    · subst e1
      rw [if_pos rfl, if_neg (show ¬ (2 * i + 1) % 2 = 0 by omega), if_pos (show (2 * i + 1) / 2 = i by omega)]
    · rw [if_neg e1]
      by_cases e2 : c = 2 * i
      · subst e2
        rw [if_pos rfl, if_pos (show 2 * i % 2 = 0 by omega), if_pos (show 2 * i / 2 = i by omega)]
      · have e3 : ¬ c / 2 = i := by omega
        simp [e2, e3]
theorem handZ_set (h : Nat → Nat) (i k : Nat) : setN (handZ h) i (k : Int) = handZ (setN h i k) := by
  funext x
  simp only [setN, handZ]
  split <;> rfl
/-- a job is put: its turn, its mark .. -/
theorem GW.turn {m n gt gu gb gf gn : Nat} {a b : Option Addr} {l cap k cap2 : Nat} {s : St} {w wr : World} (h : GW m n gt gu gb gf gn a b l cap k cap2 s w wr) (i hd : Nat) : GW m n gt gu gb gf gn a b l cap k cap2 ⟨setN s.beg i true, setN s.at_ i s.now, setN s.hand i hd, s.now, s.free, s.fin⟩ w (((wr.setCell ⟨gu, 2 * i, none⟩ (.int .i64 s.now)).setCell ⟨gu, 2 * i + 1, none⟩ (.int .i64 (hd : Int))).setCell ⟨gb, i, none⟩ (.bool true)) := by
  refine ⟨⟨((h.tw.var.setOther h.tw.ne1 _).setOther h.tw.ne1 _).setOther h.tw.ne2 _, ?_, (((h.tw.begun.setOther (fun e => h.tw.ne4 e.symm) _).setOther (fun e => h.tw.ne4 e.symm) _).set i (.bool true)).congr (fun c _ => by simp only [bools, setN]; split <;> rfl), ((h.tw.free.setOther (fun e => h.tw.ne5 e.symm) _).setOther (fun e => h.tw.ne5 e.symm) _).setOther (fun e => h.tw.ne6 e.symm) _, h.tw.ne1, h.tw.ne2, h.tw.ne3, h.tw.ne4, h.tw.ne5, h.tw.ne6, h.tw.lt, h.tw.lu, h.tw.lb, h.tw.lf, ((h.tw.below.setCell h.tw.lu _).setCell h.tw.lu _).setCell h.tw.lb _⟩, ((h.now.setOther h.n2 _).setOther h.n2 _).setOther h.n3 _, h.n1, h.n2, h.n3, h.n4, h.ln⟩
  have := turns_set h.tw.turns i s.now (hd : Int)
  rw [handZ_set] at this
  exact this.setOther h.tw.ne4 _
theorem GW.turn' {m n gt gu gb gf gn : Nat} {a b : Option Addr} {l cap k cap2 : Nat} {s : St} {w wr : World} (h : GW m n gt gu gb gf gn a b l cap k cap2 s w wr) (i hd : Nat) : GW m n gt gu gb gf gn a b l cap k cap2 ⟨setN s.beg i true, setN s.at_ i s.now, setN s.hand i hd, s.now, s.free, s.fin⟩ w (((wr.setCell ⟨gb, i, none⟩ (.bool true)).setCell ⟨gu, 2 * i, none⟩ (.int .i64 s.now)).setCell ⟨gu, 2 * i + 1, none⟩ (.int .i64 (hd : Int))) := by
  refine ⟨⟨((h.tw.var.setOther h.tw.ne2 _).setOther h.tw.ne1 _).setOther h.tw.ne1 _, ?_, (((h.tw.begun.set i (.bool true)).congr (fun c _ => by simp only [bools, setN]; split <;> rfl)).setOther (fun e => h.tw.ne4 e.symm) _).setOther (fun e => h.tw.ne4 e.symm) _, ((h.tw.free.setOther (fun e => h.tw.ne6 e.symm) _).setOther (fun e => h.tw.ne5 e.symm) _).setOther (fun e => h.tw.ne5 e.symm) _, h.tw.ne1, h.tw.ne2, h.tw.ne3, h.tw.ne4, h.tw.ne5, h.tw.ne6, h.tw.lt, h.tw.lu, h.tw.lb, h.tw.lf, ((h.tw.below.setCell h.tw.lb _).setCell h.tw.lu _).setCell h.tw.lu _⟩, ((h.now.setOther h.n3 _).setOther h.n2 _).setOther h.n2 _, h.n1, h.n2, h.n3, h.n4, h.ln⟩
  have := turns_set (h.tw.turns.setOther (a := ⟨gb, i, none⟩) h.tw.ne4 (.bool true)) i s.now (hd : Int)
  rw [handZ_set] at this
  exact this
/-- .. and its hand -/
theorem GW.hand {m n gt gu gb gf gn : Nat} {a b : Option Addr} {l cap k cap2 : Nat} {s : St} {w wr : World} {d : Tm} {i hd : Nat} (h : GW m n gt gu gb gf gn a b l cap k cap2 ⟨setN s.beg i true, setN s.at_ i s.now, setN s.hand i hd, s.now, s.free, s.fin⟩ w wr) : GW m n gt gu gb gf gn a b l cap k cap2 (s.put d i hd) w (wr.setCell ⟨gf, hd, none⟩ (.int .i64 (s.now + d i))) :=
  ⟨⟨h.tw.var.setOther h.tw.ne3 _, h.tw.turns.setOther h.tw.ne5 _, h.tw.begun.setOther h.tw.ne6 _, (h.tw.free.set hd _).congr (fun c _ => by show _ = i64s (setN s.free hd (s.now + d i)) c; simp only [i64s, setN]; split <;> rfl), h.tw.ne1, h.tw.ne2, h.tw.ne3, h.tw.ne4, h.tw.ne5, h.tw.ne6, h.tw.lt, h.tw.lu, h.tw.lb, h.tw.lf, h.tw.below.setCell h.tw.lf _⟩, h.now.setOther h.n4 _, h.n1, h.n2, h.n3, h.n4, h.ln⟩
def GraphPost (m n : Nat) (L : El) (D : List Int) (w : World) (e : Ending) (w' : World) : Prop :=
  ∃ (gu : Nat) (r : St), e = .returned (.tuple #[.slice (some ⟨gu, 0, none⟩) n n, .int .i64 r.fin, .int .i64 0]) ∧ Run m n L (dur D) St.zero r ∧ leftN n r = 0 ∧ Inv m n (dur D) r ∧ w'.rowIs gu 169 (2 * n) (turnsF r.at_ (handZ r.hand)) ∧ Below w.heap.size w w'
set_option maxHeartbeats 4000000 in
theorem Graph_few (z y : Int) (a b : Option Addr) (l cap k cap2 : Nat) (w : World) (h : z < 1 ∨ 20 < z) :
    Calls Try.prog 17 #[.int .i64 z, .int .i64 y, .slice a l cap, .slice b k cap2] w fun e w' => e = .returned (.tuple #[.slice none 0 0, .int .i64 0, .int .i64 1]) ∧ Below w.heap.size w w' := by
  by_cases h1 : z < 1
  · have h1b : decide (z < 1) = true := by simp [h1]
    clear h
    go_enter Try.func17, Try.ntmps17
    go_wp2_with fail
    exact bodyPost_ret (v := .tuple #[.slice none 0 0, .int .i64 0, .int .i64 1]) (by simp [results, Try.results17, go_sem]) rfl ⟨rfl, Below.refl _ _⟩
  · have h1b : decide (z < 1) = false := by simp [h1]
    have h2b : decide (z > 20) = true := by simp; omega
    clear h
    go_enter Try.func17, Try.ntmps17
    go_wp2_with fail
    exact bodyPost_ret (v := .tuple #[.slice none 0 0, .int .i64 0, .int .i64 1]) (by simp [results, Try.results17, go_sem]) rfl ⟨rfl, Below.refl _ _⟩
set_option maxHeartbeats 4000000 in
theorem Graph_bad (m : Nat) (z : Int) (L : El) (D : List Int) (a b : Option Addr) (l cap k cap2 : Nat) (w : World) (h1 : 1 ≤ m) (h2 : m ≤ 20) (hn : l = L.length) (hmax : l ≤ 9223372036854775807) (hL : Edges w a L) (hm : k = D.length) (hmax2 : k ≤ 9223372036854775807) (hD : Vals w b (ints D)) (hb : timesE z L D ≠ 0) :
    Calls Try.prog 17 #[.int .i64 m, .int .i64 z, .slice a l cap, .slice b k cap2] w fun e w' => e = .returned (.tuple #[.slice none 0 0, .int .i64 0, .int .i64 (timesE z L D)]) ∧ Below w.heap.size w w' := by
  have HL := Lib.hid hL
  have HN := Lib.hid hn
  have HD := Lib.hid hD
  have HM := Lib.hid hm
  have HB := Lib.hid hb
  have hbb : (timesE z L D != 0) = true := by simp [hb]
  have h1b : decide ((m : Int) < 1) = false := by simp; omega
  have h2b : decide ((m : Int) > 20) = false := by simp; omega
  clear hL hn hD hm hb
  go_enter Try.func17, Try.ntmps17
  go_wp2_with (go_at_call 29; refine Calls.mono (Times_bad z L D _ _ _ _ _ _ _ HN.out hmax HL.out HM.out hmax2 HD.out HB.out) ?_; rintro e w1 ⟨rfl, hB1⟩)
  exact bodyPost_ret (v := .tuple #[.slice none 0 0, .int .i64 0, .int .i64 (timesE z L D)]) (by simp [results, Try.results17, go_sem]) rfl ⟨rfl, hB1.alloc hB1.size _⟩
set_option maxRecDepth 100000 in
set_option maxHeartbeats 8000000 in
theorem Graph_good (m n : Nat) (L : El) (D : List Int) (a b : Option Addr) (l cap k cap2 : Nat) (w : World) (h1 : 1 ≤ m) (h2 : m ≤ 20) (hn : l = L.length) (hL : Edges w a L) (hm : k = D.length) (hD : Vals w b (ints D)) (hF : Fine n L D) :
    Calls Try.prog 17 #[.int .i64 m, .int .i64 n, .slice a l cap, .slice b k cap2] w fun e w' => GraphPost m n L D w e w' := by
  obtain ⟨_, z1, _, _, g2, g3⟩ := graphE_good hF.g
  have HO := Lib.hid (okG g3)
  have HT := Lib.hid (Gr.topo (okG g3) hF.k)
  have h60 : n ≤ 60 := by omega
  have hl4 : l ≤ 400 := by omega
  have HL := Lib.hid hL
  have HN := Lib.hid hn
  have HD := Lib.hid hD
  have HM := Lib.hid hm
  have HF := Lib.hid hF
  have HDP : Hid (∀ i, i < n → 0 ≤ dur D i ∧ dur D i ≤ 1000000000) := Lib.hid fun i hi => okD_at hF.d (show D[i]? = some (dur D i) by simp [dur, List.getElem?_eq_getElem (show i < D.length by have := hF.len; omega)])
  have h1b : decide ((m : Int) < 1) = false := by simp; omega
  have h2b : decide ((m : Int) > 20) = false := by simp; omega
  obtain rfl : k = n := by have := hF.len; omega
  clear hL hn hD hm hF g3
  have hmkT := run_make_rowN (P := Try.prog) 37 169 _ #[.int .i64 0, .int .i64 0] 2 16 Try.underlying37 infoTurn rfl .i64 .i64 k (by omega) (by omega)
  have hmkB := run_make_row' (P := Try.prog) 161 4 (.bool false) 1 Try.underlying161 infoBool' rfl .i64 .i64 k (by omega) (by omega)
  have hmkI := run_make_row' (P := Try.prog) 36 2 (.int .i64 0) 8 Try.underlying36 infoI64 rfl .i64 .i64 m (by omega) (by omega)
  go_enter Try.func17, Try.ntmps17
  go_upto_region 6 with (go_at_call 29; refine Calls.mono (Times_good k L D _ _ _ _ _ _ _ HN.out HL.out HM.out HD.out HF.out) ?_; rintro e w1 ⟨ge, gl, E, T, S, rfl, -, -, -, -, -, -, -, -, hB1⟩; have HB1 := Lib.hid hB1; clear hB1)
  obtain ⟨w2, hw2⟩ : ∃ w2, w2 = w1.alloc (.cells #[.slice (some ⟨ge, 0, none⟩) k k, .slice (some ⟨gl, 0, none⟩) k k, .int .i64 S] 55) := ⟨_, rfl⟩
  have HB2 := Lib.hid (show Below w.heap.size w w2 from by rw [hw2]; exact HB1.out.alloc HB1.out.size _)
  rw [← hw2]
  clear hw2
  go_cut [13] (fun p W => ∃ gt gu gb gf, p = .pointer (some ⟨gt, 0, none⟩) ∧ TW m k gt gu gb gf a b l cap k cap2 St.zero w2 W)
  case first =>
    go_region
    all_goals
      go_wp2_with fail
      go_meet
    · exact tab_0 w2 m k a b l cap k cap2
    · exact tab_1 w2 m k a b l cap k cap2
    · exact tab_2 w2 m k a b l cap k cap2
    · exact tab_3 w2 m k a b l cap k cap2
    · exact tab_4 w2 m k a b l cap k cap2
    · exact tab_5 w2 m k a b l cap k cap2
  case rest =>
    obtain ⟨gt, gu, gb, gf, rfl, hW⟩ := hcut
    have HW := Lib.hid hW
    clear hW hmkT hmkB hmkI
    go_wp2_with fail
    obtain ⟨w3, hw3⟩ : ∃ w3, w3 = wc.alloc (.cells #[.int .i64 0] 2) := ⟨_, rfl⟩
    have HG0 : Hid (GW m k gt gu gb gf wc.heap.size a b l cap k cap2 St.zero w2 w3) := Lib.hid (by
      rw [hw3]
      exact ⟨HW.out.step ((Below.refl _ _).alloc (Nat.le_refl _) _), one_row wc 2 _ rfl, by have := HW.out.var.lt; omega, by have := HW.out.turns.lt; omega, by have := HW.out.begun.lt; omega, by have := HW.out.free.lt; omega, HW.out.below.size⟩)
    rw [← hw3]
    clear hw3 HW
    obtain ⟨gn, hgn⟩ : ∃ g, g = wc.heap.size := ⟨_, rfl⟩
    rw [← hgn] at HG0 ⊢
    clear hgn
    have HZ := Lib.hid (leftN_all k)
    go_loopg [15, 16] (rounds m k St.zero) (fun g ve vl wr => ∃ s : St, ve = .int .i64 s.fin ∧ vl = .int .i64 ((leftN k s : Nat) : Int) ∧ Hid (GW m k gt gu gb gf gn a b l cap k cap2 s w2 wr) ∧ Hid (Inv m k (dur D) s) ∧ Hid (∀ r, Run m k L (dur D) s r → Run m k L (dur D) St.zero r) ∧ Hid (rounds m k s ≤ g))
    case atStart => exact ⟨St.zero, rfl, by rw [HZ.out], HG0, Lib.hid (Inv.zero m k (dur D)), Lib.hid (fun _ h => h), Lib.hid (Nat.le_refl _)⟩
    case round =>
      clear HG0 HZ
      obtain ⟨s, rfl, rfl, HG, HI, HR, HK⟩ := hrel
      have hsz := HG.out.tw.below.size
      have t1 := HG.out.tw.var.lt
      by_cases hl : leftN k s = 0
      · have p2 : wr.cell? ⟨gt, 2, none⟩ = some (.slice (some ⟨gu, 0, none⟩) k k) := HG.out.tw.var.cell (i := 2) (by omega)
        have HRD := Lib.hid (HR.out s (.done hl))
        have HLZ := Lib.hid hl
        rw [hl]
        clear hl
        go_wp2_with fail
        exact bodyPost_ret (v := .tuple #[.slice (some ⟨gu, 0, none⟩) k k, .int .i64 s.fin, .int .i64 0]) (by simp [results, Try.results17, go_sem]) rfl ⟨gu, s, rfl, HRD.out, HLZ.out, HI.out, HG.out.tw.turns, HB2.out.trans (HG.out.tw.below.mono HB2.out.size)⟩
      · obtain ⟨lf, hlf⟩ : ∃ x, leftN k s = x := ⟨_, rfl⟩
        have hl0 : 0 < lf := by omega
        have HLF := Lib.hid hlf
        rw [hlf]
        have HLN := Lib.hid hl
        clear hl hlf
        have hl0b : decide ((lf : Int) > 0) = true := by simp; omega
        have p4 : wr.cell? ⟨gt, 4, none⟩ = some (.slice (some ⟨gf, 0, none⟩) m m) := HG.out.tw.var.cell (i := 4) (by omega)
        have lgn := HG.out.now.lt
        have c0 := HG.out.now.cell (i := 0) (by omega)
        have HC : Hid (RC m k gt gu gb gf a b l cap k cap2 s L D w2 wr) := Lib.hid ⟨h60, HN.out, hl4, HM.out, rfl, (HL.out.below (HB2.out.trans (HG.out.tw.below.mono HB2.out.size)) (Nat.le_refl _)), (HD.out.below (HB2.out.trans (HG.out.tw.below.mono HB2.out.size)) (Nat.le_refl _)), HO.out, HG.out.tw, HI.out, HDP.out⟩
        have HPG : Hid ((handI m s < 0 ∨ readyI k L (dur D) s < 0) → 0 ≤ nextI m s ∧ s.now < nextI m s) := Lib.hid (progress HT.out HO.out HI.out (by omega) (by have := HLF.out; omega))
        by_cases hh : 0 ≤ handI m s
        · obtain ⟨h, hhe⟩ := Int.eq_ofNat_of_zero_le hh
          have HHV : Hid (handI m s = (h : Int)) := Lib.hid hhe
          obtain ⟨hhm, hhf⟩ : h < m ∧ s.free h ≤ s.now := by have := hand_of hh; rw [hhe, Int.toNat_natCast] at this; exact this
          have HHF := Lib.hid hhf
          clear hhe hhf
          by_cases hr : 0 ≤ readyI k L (dur D) s
          · obtain ⟨i, hie⟩ := Int.eq_ofNat_of_zero_le hr
            have HRV : Hid (readyI k L (dur D) s = (i : Int)) := Lib.hid hie
            obtain ⟨hik, hib⟩ : i < k ∧ s.beg i = false := by have := ready_of hr; rw [hie, Int.toNat_natCast] at this; exact this
            have HIB := Lib.hid hib
            have HIP := Lib.hid (HI.out.put (d := dur D) HDP.out hik hib hhm HHF.out)
            have HRP : Hid (∀ r, Run m k L (dur D) (s.put (dur D) i h) r → Run m k L (dur D) St.zero r) := Lib.hid fun r g => HR.out r (.put HLN.out (by rw [HHV.out]; omega) (by rw [HRV.out]; omega) (by rw [HHV.out, HRV.out, Int.toNat_natCast, Int.toNat_natCast]; exact g))
            have HKP : Hid (rounds m k (s.put (dur D) i h) < gk) := Lib.hid (by have := rounds_put (m := m) (d := dur D) (h := h) hik hib (by omega); have := HK.out; omega)
            have HLP : Hid (leftN k (s.put (dur D) i h) = lf - 1) := Lib.hid (by have := leftN_put (d := dur D) (h := h) hik hib; have := HLF.out; omega)
            clear hh hr hie hib
            have hi1 : (0 : Int) ≤ (i : Int) := by omega
            have hi2 : (i : Int) < (k : Int) := by omega
            have hh1 : (0 : Int) ≤ (h : Int) := by omega
            have hh2 : (h : Int) < (m : Int) := by omega
            have h2i : i * 2 = 2 * i := by omega
            obtain ⟨dk0, dk1⟩ := HDP.out i hik
            have hnow : 0 ≤ s.now ∧ s.now ≤ 60000000000 := by have h1 := HI.out.now0; have h2 := HI.out.few; omega
            have hw1 : IntKind.i64.wrap (s.now + dur D i) = s.now + dur D i := IntWalk.i64_in _ (by omega)
            have hw2 : IntKind.i64.wrap ((lf : Int) - 1) = ((lf - 1 : Nat) : Int) := by rw [IntWalk.i64_in _ (by have := many_len (not' s.beg) k; have h3 := HLF.out; unfold leftN at h3; omega)]; omega
            go_wp2_with (first
              | (go_at_call 104; refine Calls.mono (handOf_any m s gf gn m _ h2 HG.out.tw.free c0 lgn) ?_; rintro e w4 ⟨rfl, hB4⟩; rw [HHV.out]; have HC4 := Lib.hid (HC.out.step hB4); have HG4 := Lib.hid (HG.out.step hB4); have c4 := HG4.out.now.cell (i := 0) (by omega); have l4 := HG4.out.now.lt)
              | (go_at_call 106; refine Calls.mono (ready_any m k gt gu gb gf a b l cap k cap2 s L D w2 _ HC4.out) ?_; rintro e w5 ⟨rfl, hB5⟩; rw [HRV.out]; have HG5 := Lib.hid (HG4.out.step hB5); have c5 := HG5.out.now.cell (i := 0) (by omega); have l5 := HG5.out.now.lt; have HC5 := Lib.hid (HC4.out.step hB5); clear c0 p4 c4))
            have q2 : w5.cell? ⟨gt, 2, none⟩ = some (.slice (some ⟨gu, 0, none⟩) k k) := HG5.out.tw.var.cell (i := 2) (by omega)
            have q3 : w5.cell? ⟨gt, 3, none⟩ = some (.slice (some ⟨gb, 0, none⟩) k k) := HG5.out.tw.var.cell (i := 3) (by omega)
            obtain ⟨u1, u2⟩ := turns_at HG5.out.tw.turns hik
            have u3 := HG5.out.tw.turns.frozen (2 * i)
            have u4 := HG5.out.tw.turns.frozen (2 * i + 1)
            have b1 := HG5.out.tw.begun.cell hik
            unfold bools at b1
            have b2 := HG5.out.tw.begun.frozen i
            have lt5 := HG5.out.tw.var.lt
            have lu5 := HG5.out.tw.turns.lt
            have lb5 := HG5.out.tw.begun.lt
            have hne : gu ≠ gb := HG5.out.tw.ne4
            go_cut [78] (fun _ W => GW m k gt gu gb gf gn a b l cap k cap2 ⟨setN s.beg i true, setN s.at_ i s.now, setN s.hand i h, s.now, s.free, s.fin⟩ w2 W)
            case first =>
              go_region
              all_goals
                go_wp2_with fail
                go_meet
                first
                  | exact (HG5.out.turn i h).step ((Below.refl _ _).drew)
                  | exact (HG5.out.turn' i h).step ((Below.refl _ _).drew)
            case rest =>
              have HG6 := Lib.hid hcut
              clear hcut q2 q3 u1 u2 u3 u4 b1 b2 lt5 lu5 lb5 c5 l5
              have q4 : wc.cell? ⟨gt, 4, none⟩ = some (.slice (some ⟨gf, 0, none⟩) m m) := HG6.out.tw.var.cell (i := 4) (by omega)
              have e0 : wc.cell? ⟨gn, 0, none⟩ = some (.int .i64 s.now) := HG6.out.now.cell (i := 0) (by omega)
              have e1 := HG6.out.tw.free.cell hhm
              have e2 := HG6.out.tw.free.frozen h
              unfold i64s at e1
              have l0 := HG6.out.now.lt
              have l1 := HG6.out.tw.var.lt
              have lf1 := HG6.out.tw.free.lt
              have HBW := Lib.hid (HB2.out.trans (HG6.out.tw.below.mono HB2.out.size))
              obtain ⟨bd, od, hbe, hbd, hatd⟩ := HD.out (by simp [ints]; have := HM.out; omega)
              have d1 := (HBW.out.cell (p := ⟨bd, od + i, none⟩) hbd).trans (hatd i (.int .i64 (dur D i)) (by simp [ints, dur, List.getElem?_eq_getElem (show i < D.length by have := HM.out; omega)]))
              have lbd : bd < wc.heap.size := by have := HBW.out.size; omega
              have HH7 := Lib.hid (HG6.out.hand (d := dur D))
              clear hatd
              go_wp2_with fail
              subst hbe
              go_still_tail 12, (by kernel_rfl)
              change wpList _ _ _ _ _ wc.drew
              go_wp2_with fail
              obtain ⟨W7, hW7⟩ : ∃ W, W = (wc.setCell ⟨gf, h, none⟩ (.int .i64 (s.now + dur D i))).drew := ⟨_, rfl⟩
              have HG7 := Lib.hid (show GW m k gt gu gb gf gn a (some ⟨bd, od, none⟩) l cap k cap2 (s.put (dur D) i h) w2 W7 from by rw [hW7]; exact HH7.out.step ((Below.refl _ _).drew))
              have g0 : W7.cell? ⟨gn, 0, none⟩ = some (.int .i64 s.now) := HG7.out.now.cell (i := 0) (by omega)
              have g1 := HG7.out.now.lt
              have g2 : bd < W7.heap.size := by rw [hW7]; simpa using lbd
              have HBW7 := Lib.hid (HB2.out.trans (HG7.out.tw.below.mono HB2.out.size))
              obtain ⟨bd2, od2, hbe2, hbd2, hatd2⟩ := HD.out (by simp [ints]; have := HM.out; omega)
              simp only [Option.some.injEq, Addr.mk.injEq] at hbe2
              obtain ⟨rfl, rfl, -⟩ := hbe2
              have g3 := (HBW7.out.cell (p := ⟨bd, od + i, none⟩) hbd2).trans (hatd2 i (.int .i64 (dur D i)) (by simp [ints, dur, List.getElem?_eq_getElem (show i < D.length by have := HM.out; omega)]))
              clear e0 e1 e2 q4 d1 hatd2
              rw [← hW7]
              have hfp : (s.put (dur D) i h).fin = max s.fin (s.now + dur D i) := rfl
              have HFP := Lib.hid hfp
              clear hfp hW7
              by_cases hmx : s.fin < s.now + dur D i
              · have HFQ := Lib.hid (show (s.put (dur D) i h).fin = s.now + dur D i from by rw [HFP.out]; omega)
                go_still_tail 7, (by kernel_rfl)
                change wpList _ _ _ _ _ W7.drew
                go_wp2_with fail
                go_roundg (gk - 1)
                case measure => have := HKP.out; omega
                case rel => exact ⟨s.put (dur D) i h, by rw [HFQ.out], by rw [HLP.out], Lib.hid (HG7.out.step ((Below.refl _ _).drew)), HIP, HRP, Lib.hid (by have := HKP.out; omega)⟩
              · have HFQ := Lib.hid (show (s.put (dur D) i h).fin = s.fin from by rw [HFP.out]; omega)
                go_still_tail 7, (by kernel_rfl)
                change wpList _ _ _ _ _ W7.drew
                go_wp2_with fail
                go_roundg (gk - 1)
                case measure => have := HKP.out; omega
                case rel => exact ⟨s.put (dur D) i h, by rw [HFQ.out], by rw [HLP.out], Lib.hid (HG7.out.step ((Below.refl _ _).drew)), HIP, HRP, Lib.hid (by have := HKP.out; omega)⟩
          · have HRV : Hid (readyI k L (dur D) s = -1) := Lib.hid (by rcases leastI_cases (readyP L (dur D) s) k with ⟨i, _, e, _⟩ | ⟨e, _⟩ <;> (unfold readyI at hr ⊢; omega))
            have HNX := Lib.hid (HPG.out (.inr (by omega)))
            have HW1 := Lib.hid (HI.out.wait HNX.out.1)
            have HRW : Hid (∀ r, Run m k L (dur D) (s.wait (nextI m s)) r → Run m k L (dur D) St.zero r) := Lib.hid fun r h => HR.out r (.wait HLN.out (.inr (by rw [HRV.out]; omega)) h)
            have HKW : Hid (rounds m k (s.wait (nextI m s)) < gk) := Lib.hid (by have h1 := HK.out; have h2 := HW1.out.2; have h3 : leftN k (s.wait (nextI m s)) = leftN k s := rfl; unfold rounds at h1 ⊢; rw [h3]; omega)
            have hh1 : (0 : Int) ≤ (h : Int) := by omega
            clear hh hr
            go_wp2_with (first
              | (go_at_call 104; refine Calls.mono (handOf_any m s gf gn m _ h2 HG.out.tw.free c0 lgn) ?_; rintro e w4 ⟨rfl, hB4⟩; rw [HHV.out]; have HC4 := Lib.hid (HC.out.step hB4); have HG4 := Lib.hid (HG.out.step hB4); have c4 := HG4.out.now.cell (i := 0) (by omega); have l4 := HG4.out.now.lt)
              | (go_at_call 106; refine Calls.mono (ready_any m k gt gu gb gf a b l cap k cap2 s L D w2 _ HC4.out) ?_; rintro e w5 ⟨rfl, hB5⟩; rw [HRV.out]; have HG5 := Lib.hid (HG4.out.step hB5); have c5 := HG5.out.now.cell (i := 0) (by omega); have l5 := HG5.out.now.lt; clear c0 p4 c4)
              | (go_at_call 107; refine Calls.mono (next_any m k gt gu gb gf a b l cap k cap2 s D w2 _ h2 HG5.out.tw HI.out) ?_; rintro e w6 ⟨rfl, hB6⟩; have HG6 := Lib.hid (HG5.out.step hB6); have c6 := HG6.out.now.cell (i := 0) (by omega); have f6 := HG6.out.now.frozen 0; have l6 := HG6.out.now.lt))
            go_roundg (gk - 1)
            case measure => have := HKW.out; omega
            case rel => exact ⟨s.wait (nextI m s), rfl, by rw [show leftN k (s.wait (nextI m s)) = leftN k s from rfl, HLF.out], Lib.hid (HG6.out.wait _), Lib.hid HW1.out.1, HRW, Lib.hid (by have := HKW.out; omega)⟩
        · have HHV : Hid (handI m s = -1) := Lib.hid (by rcases leastI_cases (freeP s) m with ⟨i, _, e, _⟩ | ⟨e, _⟩ <;> (unfold handI at hh ⊢; omega))
          have HNX := Lib.hid (HPG.out (.inl (by omega)))
          have HW1 := Lib.hid (HI.out.wait HNX.out.1)
          have HRW : Hid (∀ r, Run m k L (dur D) (s.wait (nextI m s)) r → Run m k L (dur D) St.zero r) := Lib.hid fun r h => HR.out r (.wait HLN.out (.inl (by rw [HHV.out]; omega)) h)
          have HKW : Hid (rounds m k (s.wait (nextI m s)) < gk) := Lib.hid (by have h1 := HK.out; have h2 := HW1.out.2; have h3 : leftN k (s.wait (nextI m s)) = leftN k s := rfl; unfold rounds at h1 ⊢; rw [h3]; omega)
          clear hh
          go_wp2_with (first
            | (go_at_call 104; refine Calls.mono (handOf_any m s gf gn m _ h2 HG.out.tw.free c0 lgn) ?_; rintro e w4 ⟨rfl, hB4⟩; rw [HHV.out]; have HG4 := Lib.hid (HG.out.step hB4); have c4 := HG4.out.now.cell (i := 0) (by omega); have l4 := HG4.out.now.lt)
            | (go_at_call 107; refine Calls.mono (next_any m k gt gu gb gf a b l cap k cap2 s D w2 _ h2 HG4.out.tw HI.out) ?_; rintro e w5 ⟨rfl, hB5⟩; have HG5 := Lib.hid (HG4.out.step hB5); have c5 := HG5.out.now.cell (i := 0) (by omega); have f5 := HG5.out.now.frozen 0; have l5 := HG5.out.now.lt))
          go_roundg (gk - 1)
          case measure => have := HKW.out; omega
          case rel => exact ⟨s.wait (nextI m s), rfl, by rw [show leftN k (s.wait (nextI m s)) = leftN k s from rfl, HLF.out], Lib.hid (HG5.out.wait _), Lib.hid HW1.out.1, HRW, Lib.hid (by have := HKW.out; omega)⟩
end Go.Proofs.Ytfjoakhcgpckgaa
