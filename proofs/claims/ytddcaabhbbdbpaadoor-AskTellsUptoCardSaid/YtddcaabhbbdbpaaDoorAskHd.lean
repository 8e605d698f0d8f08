/- Contract: the program's reader of an ask, as deep as it goes. -/
import Derived.Test.YtddcaabhbbdbpaaDoorAskRdr
import Derived.RegionTactic
namespace Go.Proofs.YtddcaabhbbdbpaaDoor
open Go.ChangeShapes Go.WideShapes Go.ChangeAt Go.RowKit
set_option linter.unusedVariables false
set_option linter.unusedSimpArgs false
open Tp
/-- the form of an ask's value -/
def Five (v : Value) : Prop := ∃ (k0 : Int) (k1 k2 : ByteArray) (k3 : Int) (ad : Option Addr) (len cap : Nat), v = .agg #[.int .i64 k0, .string k1, .string k2, .int .i64 k3, .slice ad len cap]
/-- what the reader tells, and how it stands behind it -/
def AskQ (rb : Nat) (w : World) (o : Option (Ask × Bs × Nat)) (e : Ending) (w' : World) : Prop :=
  But rb w w' ∧ match o with
  | some (x, r, l) => ∃ v, e = .returned (.tuple #[v, .bool true]) ∧ Five v ∧ AskVP (fun b => w.heap.size ≤ b) w' x v ∧ RdrW rb r l w'
  | none => ∃ v, e = .returned (.tuple #[v, .bool false]) ∧ Five v ∧ ∃ r l, r.length ≤ 1048576 ∧ RdrW rb r l w'
/-- behind the second of two asks -/
def twoE (k : Int) (a : Ask) (o : Option (Ask × Bs × Nat)) : Option (Ask × Bs × Nat) := match o with
  | some (b, 41 :: r2, l2) => some (.mk k [] [] 0 [a, b], r2, l2)
  | _ => none
/-- behind the first of two asks -/
def twoR (N : Nat) (a : Ask) (r : Bs) (l : Nat) : Option (Ask × Bs × Nat) := match r with
  | 124 :: r' => twoE 6 a (Ar.askP N l r')
  | 38 :: r' => twoE 5 a (Ar.askP N l r')
  | _ => none
/-- two asks, behind their bracket -/
def twoP (N left : Nat) (t : Bs) : Option (Ask × Bs × Nat) :=
  match Ar.askP N left t with
  | none => none
  | some (a, r, l) => twoR N a r l
theorem askP_two (N l : Nat) (t : Bs) : Ar.askP (N + 1) (l + 1) (40 :: t) = twoP N l t := by
  unfold Ar.askP twoP
  rfl
theorem twoP_none {N left : Nat} {t : Bs} (h : Ar.askP N left t = none) : twoP N left t = none := by unfold twoP; rw [h]
theorem twoP_some {N left l : Nat} {t r : Bs} {a : Ask} (h : Ar.askP N left t = some (a, r, l)) : twoP N left t = twoR N a r l := by unfold twoP; rw [h]
theorem twoR_or (N : Nat) (a : Ask) (r : Bs) (l : Nat) : twoR N a (124 :: r) l = twoE 6 a (Ar.askP N l r) := rfl
theorem twoR_and (N : Nat) (a : Ask) (r : Bs) (l : Nat) : twoR N a (38 :: r) l = twoE 5 a (Ar.askP N l r) := rfl
theorem twoR_no {N : Nat} {a : Ask} {r : Bs} {l : Nat} (h1 : ∀ t, r ≠ 124 :: t) (h2 : ∀ t, r ≠ 38 :: t) : twoR N a r l = none := by
  unfold twoR
  split
  · rename_i t; exact absurd rfl (h1 t)
  · rename_i t; exact absurd rfl (h2 t)
  · rfl
theorem twoE_no {k : Int} {a b : Ask} {r : Bs} {l : Nat} (h : ∀ t, r ≠ 41 :: t) : twoE k a (some (b, r, l)) = none := by
  unfold twoE
  split
  · rename_i e; injection e with e; injection e with e1 e2; injection e2 with e2 e3; exact absurd e2 (h _)
  · rfl
def zero5 : Value := .agg #[.int .i64 0, .string ⟨#[]⟩, .string ⟨#[]⟩, .int .i64 0, .slice none 0 0]
theorem five_zero : Five zero5 := ⟨_, _, _, _, _, _, _, rfl⟩
/-- a box of an ask that is nothing yet -/
structure Box5 (c : Nat) (w : World) : Prop where
  lt : c < w.heap.size
  r0 : w.cell? ⟨c, 0, none⟩ = some (.int .i64 0)
  r1 : w.cell? ⟨c, 1, none⟩ = some (.string ⟨#[]⟩)
  r2 : w.cell? ⟨c, 2, none⟩ = some (.string ⟨#[]⟩)
  r3 : w.cell? ⟨c, 3, none⟩ = some (.int .i64 0)
  r4 : w.cell? ⟨c, 4, none⟩ = some (.slice none 0 0)
  fz : ∀ i, w.frozen? ⟨c, i, none⟩ = false
theorem Box5.top {w : World} {t : TypeId} {c : Nat} (hc : c = w.heap.size) : Box5 c (w.alloc (.cells #[.int .i64 0, .string ⟨#[]⟩, .string ⟨#[]⟩, .int .i64 0, .slice none 0 0] t)) :=
  ⟨by rw [hc]; simp, (cell_top _ _ _ _ _ hc).trans rfl, (cell_top _ _ _ _ _ hc).trans rfl, (cell_top _ _ _ _ _ hc).trans rfl, (cell_top _ _ _ _ _ hc).trans rfl, (cell_top _ _ _ _ _ hc).trans rfl, fun i => frozen_top _ _ _ _ _ hc⟩
theorem Box5.but {rb c : Nat} {w w' : World} (h : Box5 c w) (hb : But rb w w') (hc : c ≠ rb) : Box5 c w' :=
  ⟨Nat.lt_of_lt_of_le h.lt hb.size, (hb.cell (p := ⟨c, 0, none⟩) h.lt hc).trans h.r0, (hb.cell (p := ⟨c, 1, none⟩) h.lt hc).trans h.r1, (hb.cell (p := ⟨c, 2, none⟩) h.lt hc).trans h.r2, (hb.cell (p := ⟨c, 3, none⟩) h.lt hc).trans h.r3, (hb.cell (p := ⟨c, 4, none⟩) h.lt hc).trans h.r4, fun i => (hb.frozen (p := ⟨c, i, none⟩) h.lt hc).trans (h.fz i)⟩
theorem five_but {rb c : Nat} {w W : World} (h : But rb w W) (hc : w.heap.size ≤ c) (v0 v1 v2 v3 v4 : Value) : But rb w (five W c v0 v1 v2 v3 v4) :=
  ((((h.setCell (a := ⟨c, 0, none⟩) (.inr hc) v0).setCell (a := ⟨c, 1, none⟩) (.inr hc) v1).setCell (a := ⟨c, 2, none⟩) (.inr hc) v2).setCell (a := ⟨c, 3, none⟩) (.inr hc) v3).setCell (a := ⟨c, 4, none⟩) (.inr hc) v4
theorem RdrW.five {rb left c : Nat} {s : Bs} {w : World} (h : RdrW rb s left w) (hc : c ≠ rb) (v0 v1 v2 v3 v4 : Value) : RdrW rb s left (five w c v0 v1 v2 v3 v4) :=
  ((((h.putO (a := ⟨c, 0, none⟩) hc v0).putO (a := ⟨c, 1, none⟩) hc v1).putO (a := ⟨c, 2, none⟩) hc v2).putO (a := ⟨c, 3, none⟩) hc v3).putO (a := ⟨c, 4, none⟩) hc v4
theorem RdrW.alloc {rb left : Nat} {s : Bs} {w : World} (h : RdrW rb s left w) (o : Obj) : RdrW rb s left (w.alloc o) := h.step ((Below.refl w.heap.size w).alloc (Nat.le_refl _) o) h.lt
theorem RdrW.drew {rb left : Nat} {s : Bs} {w : World} (h : RdrW rb s left w) : RdrW rb s left w.drew := h.step ((Below.refl w.heap.size w).drew) h.lt
mutual
/-- an ask's blocks lie in the heap -/
theorem AskVP.lt' {p : Nat → Prop} {w : World} : ∀ (x : Ask) (v : Value), AskVP p w x v → AskVP (fun b => p b ∧ b < w.heap.size) w x v
  | .mk k a b n l, v, h => by
    rw [AskVP] at h ⊢
    obtain ⟨ad, len, cap, e, h1, h2, h3, h5, h6, h4⟩ := h
    refine ⟨ad, len, cap, e, h1, h2, h3, h5, h6, fun hp => ?_⟩
    obtain ⟨bl, off, e2, hlt, hpb, hh⟩ := h4 hp
    exact ⟨bl, off, e2, hlt, ⟨hpb, hlt⟩, AsksVP.lt' l bl off hh⟩
theorem AsksVP.lt' {p : Nat → Prop} {w : World} : ∀ (l : List Ask) (b off : Nat), AsksVP p w l b off → AsksVP (fun b => p b ∧ b < w.heap.size) w l b off
  | [], _, _, _ => by rw [AsksVP]; trivial
  | x :: l, b, off, h => by
    rw [AsksVP] at h ⊢
    obtain ⟨⟨v, h1, h2⟩, h3⟩ := h
    exact ⟨⟨v, h1, AskVP.lt' x v h2⟩, AsksVP.lt' l b (off + 5) h3⟩
end
theorem AskVP.both {p : Nat → Prop} {w w' : World} {x : Ask} {v : Value} (h : AskVP p w x v) (hs : w.heap.size ≤ w'.heap.size) (he : ∀ b, p b → b < w.heap.size → w'.heap[b]? = w.heap[b]?) : AskVP (fun b => p b ∧ b < w.heap.size) w' x v :=
  AskVP.stays (fun b h => h) hs (fun b h hb => he b h.1 hb) _ _ (AskVP.lt' _ _ h)
theorem leaf_vp {p : Nat → Prop} {w : World} (k : Int) (a b : Bs) (n : Int) (ha : a.length ≤ 9223372036854775807) (hb : b.length ≤ 9223372036854775807) : AskVP p w (.mk k a b n []) (.agg #[.int .i64 k, .string (bts a), .string (bts b), .int .i64 n, .slice none 0 0]) := by
  rw [AskVP]
  exact ⟨none, 0, 0, rfl, rfl, Nat.le_refl _, by omega, ha, hb, fun h => absurd h (by omega)⟩
theorem take_yes2 (rb left : Nat) (c : UInt8) (t : Bs) (w : World) (h : RdrW rb (c :: t) left w) (hl : t.length ≤ 1099511627776) : Calls Tryd.prog 20 #[.pointer (some ⟨rb, 0, none⟩), .int .u8 (c.toNat : Int)] w fun e w' => e = .returned (.bool true) ∧ RdrW rb t left w' ∧ But rb w w' := by
  refine Calls.mono (take_yes rb left c t w h hl) ?_
  rintro e w' ⟨rfl, rfl⟩
  exact ⟨rfl, h.putS t, (But.refl rb w).setCell (a := ⟨rb, 0, none⟩) (.inl rfl) _⟩
theorem tree_one {S c B : Nat} {W : World} {y : Ask} {x0 x3 : Int} {x1 x2 : ByteArray} {xd : Option Addr} {xl xc : Nat} {t' : TypeId} (hS : S ≤ W.heap.size) (hc : c < S) (hB : B ≤ S)
    (HX : AskVP (fun b => S ≤ b) W y (.agg #[.int .i64 x0, .string x1, .string x2, .int .i64 x3, .slice xd xl xc])) (v0 v1 v2 v3 v4 : Value) :
    AskVP (fun b => B ≤ b) ((five W c v0 v1 v2 v3 v4).alloc (.cells #[.int .i64 x0, .string x1, .string x2, .int .i64 x3, .slice xd xl xc] t')) (.mk 4 [] [] 0 [y]) (.agg #[.int .i64 4, .string ⟨#[]⟩, .string ⟨#[]⟩, .int .i64 0, .slice (some ⟨W.heap.size, 0, none⟩) 1 1]) := by
  obtain ⟨F, hF⟩ : ∃ F, five W c v0 v1 v2 v3 v4 = F := ⟨_, rfl⟩
  have hsz : F.heap.size = W.heap.size := by rw [← hF, five_size]
  have h5 : ∀ b, b ≠ c → F.heap[b]? = W.heap[b]? := fun b hb => by rw [← hF]; exact five_heap _ _ _ _ _ _ _ b hb
  rw [hF]
  have hcell : ∀ i, (F.alloc (.cells #[.int .i64 x0, .string x1, .string x2, .int .i64 x3, .slice xd xl xc] t')).cell? ⟨W.heap.size, i, none⟩ = (#[.int .i64 x0, .string x1, .string x2, .int .i64 x3, .slice xd xl xc] : Array Value)[i]? := fun i => cell_top _ _ _ _ _ hsz.symm
  have hold : ∀ b, b ≠ c → b < W.heap.size → (F.alloc (.cells #[.int .i64 x0, .string x1, .string x2, .int .i64 x3, .slice xd xl xc] t')).heap[b]? = W.heap[b]? := fun b h1 hb => (Below.heap_alloc _ _ _ (by omega)).trans (h5 b h1)
  rw [AskVP]
  refine ⟨_, _, _, rfl, rfl, Nat.le_refl _, by omega, by simp, by simp, fun _ => ⟨_, _, rfl, by simp; omega, by show B ≤ W.heap.size; omega, ?_⟩⟩
  rw [AsksVP, AsksVP]
  refine ⟨⟨.agg #[.int .i64 x0, .string x1, .string x2, .int .i64 x3, .slice xd xl xc], ⟨_, _, _, _, _, rfl, (hcell _).trans rfl, (hcell _).trans rfl, (hcell _).trans rfl, (hcell _).trans rfl, (hcell _).trans rfl⟩, ?_⟩, trivial⟩
  exact AskVP.stays (fun b h => Nat.le_trans hB h) (by simp; omega) (fun b h hlt => hold b (by omega) hlt) _ _ HX
/-- what the reader tells, the value named -/
def AskR (rb : Nat) (w : World) (o : Option (Ask × Bs × Nat)) (bv : Bool) (v : Value) (w' : World) : Prop :=
  match o with
  | some (x, r, l) => bv = true ∧ AskVP (fun b => w.heap.size ≤ b) w' x v ∧ RdrW rb r l w'
  | none => bv = false ∧ ∃ r l, r.length ≤ 1048576 ∧ RdrW rb r l w'
theorem AskQ.form {rb : Nat} {w w' : World} {o : Option (Ask × Bs × Nat)} {e : Ending} (h : AskQ rb w o e w') : But rb w w' ∧ ∃ (bv : Bool) (x0 : Int) (x1 x2 : ByteArray) (x3 : Int) (xd : Option Addr) (xl xc : Nat), e = .returned (.tuple #[.agg #[.int .i64 x0, .string x1, .string x2, .int .i64 x3, .slice xd xl xc], .bool bv]) ∧ AskR rb w o bv (.agg #[.int .i64 x0, .string x1, .string x2, .int .i64 x3, .slice xd xl xc]) w' := by
  obtain ⟨hb, h⟩ := h
  cases o with
  | none =>
    obtain ⟨v, rfl, ⟨x0, x1, x2, x3, xd, xl, xc, rfl⟩, r, l, h1, h2⟩ := h
    exact ⟨hb, _, _, _, _, _, _, _, _, rfl, rfl, r, l, h1, h2⟩
  | some p =>
    obtain ⟨x, r, l⟩ := p
    obtain ⟨v, rfl, ⟨x0, x1, x2, x3, xd, xl, xc, rfl⟩, h1, h2⟩ := h
    exact ⟨hb, _, _, _, _, _, _, _, _, rfl, rfl, h1, h2⟩
theorem AskQ.mk' {rb : Nat} {w w' : World} {o : Option (Ask × Bs × Nat)} {bv : Bool} {x0 : Int} {x1 x2 : ByteArray} {x3 : Int} {xd : Option Addr} {xl xc : Nat} (hb : But rb w w') (h : AskR rb w o bv (.agg #[.int .i64 x0, .string x1, .string x2, .int .i64 x3, .slice xd xl xc]) w') : AskQ rb w o (.returned (.tuple #[.agg #[.int .i64 x0, .string x1, .string x2, .int .i64 x3, .slice xd xl xc], .bool bv])) w' := by
  refine ⟨hb, ?_⟩
  cases o with
  | none =>
    obtain ⟨rfl, r, l, h1, h2⟩ := h
    exact ⟨_, rfl, ⟨_, _, _, _, _, _, _, rfl⟩, r, l, h1, h2⟩
  | some p =>
    obtain ⟨x, r, l⟩ := p
    obtain ⟨rfl, h1, h2⟩ := h
    exact ⟨_, rfl, ⟨_, _, _, _, _, _, _, rfl⟩, h1, h2⟩
theorem take_yes3 (rb left : Nat) (k : Int) (c : UInt8) (hk : (c.toNat : Int) = k) (t : Bs) (w : World) (h : RdrW rb (c :: t) left w) (hl : t.length ≤ 1099511627776) : Calls Tryd.prog 20 #[.pointer (some ⟨rb, 0, none⟩), .int .u8 k] w fun e w' => e = .returned (.bool true) ∧ RdrW rb t left w' ∧ But rb w w' := by
  subst hk; exact take_yes2 rb left c t w h hl
theorem take_no3 (rb left : Nat) (k : Int) (c : UInt8) (hk : (c.toNat : Int) = k) (s : Bs) (w : World) (h : RdrW rb s left w) (hn : ∀ t, s ≠ c :: t) : Calls Tryd.prog 20 #[.pointer (some ⟨rb, 0, none⟩), .int .u8 k] w fun e w' => e = .returned (.bool false) ∧ w = w' := by
  subst hk; exact take_no rb left c s w h hn
/-- an ask that begins with a word -/
def elseP (A R : Bs) (l : Nat) : Option (Ask × Bs × Nat) := match R with
  | 62 :: 61 :: t => match Lib.parseIntB 64 (Ar.word t) with
    | .ok n => some (.mk 3 A [] n [], Ar.rest t, l)
    | _ => none
  | 61 :: t => some (.mk 2 A (Ar.word t) 0 [], Ar.rest t, l)
  | _ => none
theorem elseP_more (A t : Bs) (l : Nat) : elseP A (62 :: 61 :: t) l = match numB (Ar.word t) with | some n => some (.mk 3 A [] n [], Ar.rest t, l) | none => none := by
  show (match Lib.parseIntB 64 (Ar.word t) with | .ok n => some (Ask.mk 3 A [] n [], Ar.rest t, l) | _ => none) = _
  unfold numB
  cases Lib.parseIntB 64 (Ar.word t) <;> rfl
theorem elseP_is (A t : Bs) (l : Nat) : elseP A (61 :: t) l = some (.mk 2 A (Ar.word t) 0 [], Ar.rest t, l) := rfl
theorem elseP_no1 {A t1 : Bs} {l : Nat} (h : ∀ t, t1 ≠ 61 :: t) : elseP A (62 :: t1) l = none := by
  unfold elseP
  split
  · rename_i t e; injection e with e1 e2; exact absurd e2 (h t)
  · rename_i t e; injection e with e1 e2; exact absurd e1 (by decide)
  · rfl
theorem elseP_no2 {A R : Bs} {l : Nat} (h1 : ∀ t, R ≠ 62 :: t) (h2 : ∀ t, R ≠ 61 :: t) : elseP A R l = none := by
  unfold elseP
  split
  · rename_i t; exact absurd rfl (h1 _)
  · rename_i t; exact absurd rfl (h2 _)
  · rfl
theorem askP_else {N left : Nat} {s : Bs} (h63 : ∀ t, s ≠ 63 :: t) (h33 : ∀ t, s ≠ 33 :: t) (h40 : ∀ t, s ≠ 40 :: t) : Ar.askP (N + 1) (left + 1) s = elseP (Ar.word s) (Ar.rest s) left := by
  unfold Ar.askP elseP
  rw [if_neg (by omega)]
  split
  · rename_i t; exact absurd rfl (h63 t)
  · rename_i t; exact absurd rfl (h33 t)
  · rename_i t; exact absurd rfl (h40 t)
  · rfl
/-- what comes of a world by steps that turn the blocks rb and c alone -/
inductive UpK (rb c : Nat) (w : World) : World → Prop where
  | refl : UpK rb c w w
  | alloc {w' : World} (o : Obj) : UpK rb c w w' → UpK rb c w (w'.alloc o)
  | drew {w' : World} : UpK rb c w w' → UpK rb c w w'.drew
  | setR {w' : World} (i : Nat) (u : Value) : UpK rb c w w' → UpK rb c w (w'.setCell ⟨rb, i, none⟩ u)
  | setC {w' : World} (i : Nat) (u : Value) : UpK rb c w w' → UpK rb c w (w'.setCell ⟨c, i, none⟩ u)
  | but {w' w'' : World} : UpK rb c w w' → But rb w' w'' → UpK rb c w w''
theorem UpK.keep {rb c : Nat} {w w' : World} (h : UpK rb c w w') : w.heap.size ≤ w'.heap.size ∧ ∀ k, k < w.heap.size → k ≠ rb → k ≠ c → w'.heap[k]? = w.heap[k]? := by
  induction h with
  | refl => exact ⟨Nat.le_refl _, fun _ _ _ _ => rfl⟩
  | alloc o _ ih => exact ⟨Nat.le_trans ih.1 (by simp), fun k h1 h2 h3 => (Below.heap_alloc _ _ _ (Nat.lt_of_lt_of_le h1 ih.1)).trans (ih.2 k h1 h2 h3)⟩
  | drew _ ih => exact ih
  | setR i u _ ih => exact ⟨by simpa using ih.1, fun k h1 h2 h3 => (Below.heap_setCell _ _ _ _ h2).trans (ih.2 k h1 h2 h3)⟩
  | setC i u _ ih => exact ⟨by simpa using ih.1, fun k h1 h2 h3 => (Below.heap_setCell _ _ _ _ h3).trans (ih.2 k h1 h2 h3)⟩
  | but _ hb ih => exact ⟨Nat.le_trans ih.1 hb.size, fun k h1 h2 h3 => (hb.block k (Nat.lt_of_lt_of_le h1 ih.1) h2).trans (ih.2 k h1 h2 h3)⟩
theorem UpK.cell {rb c : Nat} {w w' : World} (h : UpK rb c w w') {p : Addr} (h1 : p.block < w.heap.size) (h2 : p.block ≠ rb) (h3 : p.block ≠ c) : w'.cell? p = w.cell? p := World.cell?_of_block (w := w) (h.keep.2 _ h1 h2 h3)
theorem tree_two {rb c B G : Nat} {W5 W6 : World} {ya yb : Ask} {kk : Int} {x0 x3 y0 y3 : Int} {x1 x2 y1 y2 : ByteArray} {xd yd : Option Addr} {xl xc yl yc : Nat} {pa pb : Nat → Prop} (hk : UpK rb c W5 W6) (hG : G < W6.heap.size) (hGB : B ≤ G) (hGc : G ≠ c)
    (hcell : ∀ i, W6.cell? ⟨G, i, none⟩ = (#[.int .i64 x0, .string x1, .string x2, .int .i64 x3, .slice xd xl xc, .int .i64 y0, .string y1, .string y2, .int .i64 y3, .slice yd yl yc] : Array Value)[i]?)
    (HA : AskVP pa W5 ya (.agg #[.int .i64 x0, .string x1, .string x2, .int .i64 x3, .slice xd xl xc])) (hpa : ∀ b, pa b → B ≤ b ∧ b ≠ rb ∧ b ≠ c)
    (HB : AskVP pb W5 yb (.agg #[.int .i64 y0, .string y1, .string y2, .int .i64 y3, .slice yd yl yc])) (hpb : ∀ b, pb b → B ≤ b ∧ b ≠ rb ∧ b ≠ c) (v0 v1 v2 v3 v4 : Value) :
    AskVP (fun b => B ≤ b) (five W6 c v0 v1 v2 v3 v4) (.mk kk [] [] 0 [ya, yb]) (.agg #[.int .i64 kk, .string ⟨#[]⟩, .string ⟨#[]⟩, .int .i64 0, .slice (some ⟨G, 0, none⟩) 2 2]) := by
  have h5 : ∀ b, b ≠ c → (five W6 c v0 v1 v2 v3 v4).heap[b]? = W6.heap[b]? := fun b hb => five_heap _ _ _ _ _ _ _ b hb
  have hc : ∀ i, (five W6 c v0 v1 v2 v3 v4).cell? ⟨G, i, none⟩ = (#[.int .i64 x0, .string x1, .string x2, .int .i64 x3, .slice xd xl xc, .int .i64 y0, .string y1, .string y2, .int .i64 y3, .slice yd yl yc] : Array Value)[i]? := fun i => (cell_of_block (p := ⟨G, i, none⟩) (h5 _ hGc)).trans (hcell i)
  have hs : W5.heap.size ≤ (five W6 c v0 v1 v2 v3 v4).heap.size := by rw [five_size]; exact hk.keep.1
  rw [AskVP]
  refine ⟨_, _, _, rfl, rfl, Nat.le_refl _, by omega, by simp, by simp, fun _ => ⟨_, _, rfl, by rw [five_size]; exact hG, hGB, ?_⟩⟩
  rw [AsksVP, AsksVP, AsksVP]
  refine ⟨⟨.agg #[.int .i64 x0, .string x1, .string x2, .int .i64 x3, .slice xd xl xc], ⟨_, _, _, _, _, rfl, (hc _).trans rfl, (hc _).trans rfl, (hc _).trans rfl, (hc _).trans rfl, (hc _).trans rfl⟩, ?_⟩, ⟨.agg #[.int .i64 y0, .string y1, .string y2, .int .i64 y3, .slice yd yl yc], ⟨_, _, _, _, _, rfl, (hc _).trans rfl, (hc _).trans rfl, (hc _).trans rfl, (hc _).trans rfl, (hc _).trans rfl⟩, ?_⟩, trivial⟩
  · exact AskVP.stays (fun b h => (hpa b h).1) hs (fun b h hb => (h5 b (hpa b h).2.2).trans (hk.keep.2 b hb (hpa b h).2.1 (hpa b h).2.2)) _ _ HA
  · exact AskVP.stays (fun b h => (hpb b h).1) hs (fun b h hb => (h5 b (hpb b h).2.2).trans (hk.keep.2 b hb (hpb b h).2.1 (hpb b h).2.2)) _ _ HB
end Go.Proofs.YtddcaabhbbdbpaaDoor
