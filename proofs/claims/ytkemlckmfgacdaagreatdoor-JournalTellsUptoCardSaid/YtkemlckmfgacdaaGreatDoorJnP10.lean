/- The reader of an ask's text in memory; its take and its word. -/
import Derived.Test.YtkemlckmfgacdaaGreatDoorJnP9
import Derived.Test.YtkemlckmfgacdaaGreatDoorJnP6
import Derived.RegionTactic
namespace Go.Proofs.YtkemlckmfgacdaaGreatDoor
set_option maxRecDepth 20000
set_option maxHeartbeats 64000000
open Go.ChangeShapes Go.WideShapes Go.ChangeAt Go.RowKit
set_option linter.unusedVariables false
open Tp
structure But (rb : Nat) (w w' : World) : Prop where
 os : w'.os = w.os
 tape : w'.tape = w.tape
 out : w'.output = w.output
 size : w.heap.size ≤ w'.heap.size
 block : ∀ k, k < w.heap.size → k ≠ rb → w'.heap[k]? = w.heap[k]?
theorem But.refl (rb : Nat) (w : World) : But rb w w := ⟨rfl, rfl, rfl, Nat.le_refl _, fun _ _ _ => rfl⟩
theorem But.ofBelow {rb B : Nat} {w w' : World} (h : Below B w w') (hB : w.heap.size ≤ B) : But rb w w' := ⟨h.os, h.tape, h.output, h.size, fun k hk _ => h.block k (by omega)⟩
theorem But.trans {rb : Nat} {a b c : World} (h : But rb a b) (k : But rb b c) : But rb a c :=
 ⟨k.os.trans h.os, k.tape.trans h.tape, k.out.trans h.out, Nat.le_trans h.size k.size, fun j hj hr => (k.block j (Nat.lt_of_lt_of_le hj h.size) hr).trans (h.block j hj hr)⟩
theorem But.below {rb B : Nat} {w w' : World} (h : But rb w w') (hB : B ≤ rb) (hs : B ≤ w.heap.size) : Below B w w' := ⟨h.os, h.tape, h.out, h.size, fun k hk => h.block k (by omega) (by omega)⟩
theorem But.cell {rb : Nat} {w w' : World} (h : But rb w w') {p : Addr} (h1 : p.block < w.heap.size) (h2 : p.block ≠ rb) : w'.cell? p = w.cell? p := World.cell?_of_block (w := w) (h.block _ h1 h2)
theorem But.frozen {rb : Nat} {w w' : World} (h : But rb w w') {p : Addr} (h1 : p.block < w.heap.size) (h2 : p.block ≠ rb) : w'.frozen? p = w.frozen? p := World.frozen?_of_block (w := w) (h.block _ h1 h2)
theorem But.setCell {rb : Nat} {w w' : World} (h : But rb w w') {a : Addr} (ha : a.block = rb ∨ w.heap.size ≤ a.block) (u : Value) : But rb w (w'.setCell a u) :=
 ⟨h.os, h.tape, h.out, by simpa using h.size, fun k hk hr => (Below.heap_setCell _ _ _ _ (by rcases ha with e | e <;> omega)).trans (h.block k hk hr)⟩
theorem But.alloc {rb : Nat} {w w' : World} (h : But rb w w') (o : Obj) : But rb w (w'.alloc o) :=
 ⟨h.os, h.tape, h.out, Nat.le_trans h.size (by simp), fun k hk hr => (Below.heap_alloc _ _ _ (Nat.lt_of_lt_of_le hk h.size)).trans (h.block k hk hr)⟩
theorem But.drew {rb : Nat} {w w' : World} (h : But rb w w') : But rb w w'.drew := ⟨h.os, h.tape, h.out, h.size, h.block⟩
structure RdrW (rb : Nat) (s : Bs) (left : Nat) (w : World) : Prop where
 lt : rb < w.heap.size
 s' : w.cell? ⟨rb, 0, none⟩ = some (.string (bts s))
 l' : w.cell? ⟨rb, 1, none⟩ = some (.int .i64 (left : Int))
 f0 : w.frozen? ⟨rb, 0, none⟩ = false
 f1 : w.frozen? ⟨rb, 1, none⟩ = false
theorem RdrW.step {rb left C : Nat} {s : Bs} {w w' : World} (h : RdrW rb s left w) (hb : Below C w w') (hC : rb < C) : RdrW rb s left w' :=
 ⟨Nat.lt_of_lt_of_le h.lt hb.size, (hb.cell (p := ⟨rb, 0, none⟩) hC).trans h.s', (hb.cell (p := ⟨rb, 1, none⟩) hC).trans h.l', (hb.frozen (p := ⟨rb, 0, none⟩) hC).trans h.f0, (hb.frozen (p := ⟨rb, 1, none⟩) hC).trans h.f1⟩
theorem RdrW.putS {rb left : Nat} {s : Bs} {w : World} (h : RdrW rb s left w) (t : Bs) : RdrW rb t left (w.setCell ⟨rb, 0, none⟩ (.string (bts t))) :=
 ⟨by simpa using h.lt, World.cell?_setCell_same _ _ _ h.s', by rw [World.cell?_setCell_other _ _ _ _ (by intro e; have := congrArg Addr.off e; simp at this)]; exact h.l', by rw [World.frozen?_setCell]; exact h.f0, by rw [World.frozen?_setCell]; exact h.f1⟩
theorem RdrW.putL {rb left : Nat} {s : Bs} {w : World} (h : RdrW rb s left w) (l : Nat) : RdrW rb s l (w.setCell ⟨rb, 1, none⟩ (.int .i64 (l : Int))) :=
 ⟨by simpa using h.lt, by rw [World.cell?_setCell_other _ _ _ _ (by intro e; have := congrArg Addr.off e; simp at this)]; exact h.s', World.cell?_setCell_same _ _ _ h.l', by rw [World.frozen?_setCell]; exact h.f0, by rw [World.frozen?_setCell]; exact h.f1⟩
theorem RdrW.putO {rb left : Nat} {s : Bs} {w : World} (h : RdrW rb s left w) {a : Addr} (ha : a.block ≠ rb) (u : Value) : RdrW rb s left (w.setCell a u) :=
 ⟨by simpa using h.lt, by rw [World.cell?_setCell_other _ _ _ _ (by intro e; exact ha (congrArg Addr.block e))]; exact h.s', by rw [World.cell?_setCell_other _ _ _ _ (by intro e; exact ha (congrArg Addr.block e))]; exact h.l', by rw [World.frozen?_setCell]; exact h.f0, by rw [World.frozen?_setCell]; exact h.f1⟩
theorem take_no (rb left : Nat) (c : UInt8) (s : Bs) (w : World) (h : RdrW rb s left w) (hn : ∀ t, s ≠ c :: t) : Calls Tryz.prog 91 #[.pointer (some ⟨rb, 0, none⟩), .int .u8 (c.toNat : Int)] w fun e w' => e = .returned (.bool false) ∧ w = w' := by
 have d0 := h.s'
 have hlt := h.lt
 cases s with
 | nil =>
  clear hn h
  go_enter Tryz.func91, Tryz.ntmps91
  rw [show bts [] = (⟨#[]⟩ : ByteArray) from rfl] at d0
  go_wp2_with fail
  go_ret
  exact ⟨rfl, rfl⟩
 | cons x t =>
  have hxc : ¬ x = c := fun e => hn t (by rw [e])
  have hne : ((x.toNat : Int) == (c.toNat : Int)) = false := by
   simp only [beq_eq_false_iff_ne]
   intro e
   exact hxc (UInt8.toNat_inj.1 (by omega))
  obtain ⟨S, hS⟩ : ∃ S, bts (x :: t) = S := ⟨_, rfl⟩
  rw [hS] at d0
  have hsz : 0 < S.size := by rw [← hS, bts_size]; simp
  have hS0 : S[0]'hsz = x := lst_at (s := S) (by rw [← hS, lst_bts]; rfl) hsz
  have hSl : ¬ S.toList = [] := by rw [← hS, bts_toList]; simp
  have hSl2 : S.toList.isEmpty = false := by rw [← hS, bts_toList]; rfl
  clear hn h hxc hS
  go_enter Tryz.func91, Tryz.ntmps91
  go_wp2_with fail
  go_ret
  exact ⟨rfl, rfl⟩
theorem take_yes (rb left : Nat) (c : UInt8) (t : Bs) (w : World) (h : RdrW rb (c :: t) left w) (hl : t.length ≤ 1099511627776) : Calls Tryz.prog 91 #[.pointer (some ⟨rb, 0, none⟩), .int .u8 (c.toNat : Int)] w fun e w' => e = .returned (.bool true) ∧ w.setCell ⟨rb, 0, none⟩ (.string (bts t)) = w' := by
 have d0 := h.s'
 have f0 := h.f0
 have hlt := h.lt
 have hne : ((c.toNat : Int) == (c.toNat : Int)) = true := by simp
 obtain ⟨S, hS⟩ : ∃ S, bts (c :: t) = S := ⟨_, rfl⟩
 rw [hS] at d0
 obtain ⟨n, hn⟩ : ∃ n, S.size = n := ⟨_, rfl⟩
 have hnl : n = t.length + 1 := by rw [← hn, ← hS, bts_size]; rfl
 have hsz : 0 < S.size := by rw [← hS, bts_size]; simp
 have hS0 : S[0]'hsz = c := lst_at (s := S) (by rw [← hS, lst_bts]; rfl) hsz
 have hSl : ¬ S.toList = [] := by rw [← hS, bts_toList]; simp
 have hSl2 : S.toList.isEmpty = false := by rw [← hS, bts_toList]; rfl
 have hext : S.extract 1 n = bts t := by
  rw [← hS, hnl]
  have := Nr.ext_drop (c :: t) 1
  simpa using this
 obtain ⟨T, hT⟩ : ∃ T, bts t = T := ⟨_, rfl⟩
 rw [hT] at hext ⊢
 have h1n : (1 : Int) ≤ (n : Int) := by omega
 clear h hS hT hnl
 go_enter Tryz.func91, Tryz.ntmps91
 go_wp2_with fail
 go_ret
 exact ⟨rfl, rfl⟩
theorem word_any (rb left : Nat) (s : Bs) (w : World) (h : RdrW rb s left w) (hl : s.length < 4294967281) : Calls Tryz.prog 92 #[.pointer (some ⟨rb, 0, none⟩)] w fun e w' => e = .returned (.string (bts (Ar.word s))) ∧ RdrW rb (Ar.rest s) left w' ∧ But rb w w' := by
 have HR := hid h
 have d0 := h.s'
 have hlt := h.lt
 obtain ⟨S, hS⟩ : ∃ S, bts s = S := ⟨_, rfl⟩
 obtain ⟨n, hn⟩ : ∃ n, S.size = n := ⟨_, rfl⟩
 have hns : n = s.length := by rw [← hn, ← hS, bts_size]
 have HI := hid (IndexAny_any s w hl)
 rw [hS] at d0 HI
 obtain ⟨k, hk⟩ : ∃ k, (Ar.word s).length = k := ⟨_, rfl⟩
 have hkn : k ≤ n := by rw [← hk, hns]; exact Ar.word_len s
 have hx1 : S.extract 0 k = bts (Ar.word s) := by rw [← hS, Nr.ext_take, ← hk, (Ar.word_take s).1]
 have hx2 : S.extract k n = bts (Ar.rest s) := by rw [← hS, hns, Nr.ext_drop, ← hk, (Ar.word_take s).2]
 have HIX := hid (Ar.index_word s)
 have HWA : Hid (Ar.rest s = [] → k = n) := hid (fun e => by rw [← hk, Ar.word_all e, hns])
 obtain ⟨A, hA⟩ : ∃ A, bts (Ar.word s) = A := ⟨_, rfl⟩
 obtain ⟨R, hR⟩ : ∃ A, bts (Ar.rest s) = A := ⟨_, rfl⟩
 have HRR := hid hR
 rw [hA] at hx1 ⊢
 rw [hR] at hx2
 rw [hk] at HIX
 have hk0 : (0 : Int) ≤ (k : Int) := by omega
 have hk1 : (k : Int) ≤ (n : Int) := by omega
 obtain ⟨ix, hix⟩ : ∃ i, Lib.indexAny s Ar.signs = i := ⟨_, rfl⟩
 rw [hix] at HI HIX
 have HX1 := hid hx1
 clear h hS hns hk hix hA hR
 go_enter Tryz.func92, Tryz.ntmps92
 go_wp2_with fail
 refine Calls.mono HI.out ?_
 rintro e w1 ⟨rfl, hb⟩
 have HR1 : Hid (RdrW rb s left w1) := hid (HR.out.step hb hlt)
 have HB := hid hb
 replace d0 := (hb.cell (p := ⟨rb, 0, none⟩) hlt).trans d0
 have f0 := HR1.out.f0
 clear hb
 by_cases hr : Ar.rest s = []
 ·obtain rfl : ix = -1 := by have := HIX.out; rwa [if_pos hr] at this
  obtain rfl : k = n := HWA.out hr
  have HR0 := hid hr
  clear hr
  go_wp2_with fail
  go_ret
  exact ⟨rfl, by rw [HR0.out]; exact HR1.out.putS [], (But.ofBelow (rb := rb) HB.out lr).setCell (a := ⟨rb, 0, none⟩) (.inl rfl) _⟩
 ·obtain rfl : ix = (k : Int) := by have := HIX.out; rwa [if_neg hr] at this
  clear hr
  go_wp2_with fail
  go_ret
  exact ⟨rfl, by rw [← HRR.out]; exact HR1.out.putS _, (But.ofBelow (rb := rb) HB.out lr).setCell (a := ⟨rb, 0, none⟩) (.inl rfl) _⟩
end Go.Proofs.YtkemlckmfgacdaaGreatDoor
namespace Go.Proofs.YtkemlckmfgacdaaGreatDoor
set_option maxRecDepth 20000
set_option maxHeartbeats 64000000
open Go.ChangeShapes Go.WideShapes Go.ChangeAt Go.RowKit
set_option linter.unusedVariables false
set_option linter.unusedSimpArgs false
open Tp
def Five (v : Value) : Prop := ∃ (k0 : Int) (k1 k2 : ByteArray) (k3 : Int) (ad : Option Addr) (len cap : Nat), v = .agg #[.int .i64 k0, .string k1, .string k2, .int .i64 k3, .slice ad len cap]
def AskQ (rb : Nat) (w : World) (o : Option (Ask × Bs × Nat)) (e : Ending) (w' : World) : Prop :=
 But rb w w' ∧ match o with
 | some (x, r, l) => ∃ v, e = .returned (.tuple #[v, .bool true]) ∧ Five v ∧ AskVP (fun b => w.heap.size ≤ b) w' x v ∧ RdrW rb r l w'
 | none => ∃ v, e = .returned (.tuple #[v, .bool false]) ∧ Five v ∧ ∃ r l, r.length ≤ 1048576 ∧ RdrW rb r l w'
def twoE (k : Int) (a : Ask) (o : Option (Ask × Bs × Nat)) : Option (Ask × Bs × Nat) := match o with
 | some (b, 41 :: r2, l2) => some (.mk k [] [] 0 [a, b], r2, l2)
 | _ => none
def twoR (N : Nat) (a : Ask) (r : Bs) (l : Nat) : Option (Ask × Bs × Nat) := match r with
 | 124 :: r' => twoE 6 a (Ar.askP N l r')
 | 38 :: r' => twoE 5 a (Ar.askP N l r')
 | _ => none
def twoP (N left : Nat) (t : Bs) : Option (Ask × Bs × Nat) :=
 match Ar.askP N left t with
 | none => none
 | some (a, r, l) => twoR N a r l
theorem askP_two (N l : Nat) (t : Bs) : Ar.askP (N + 1) (l + 1) (40 :: t) = twoP N l t := by
 unfold Ar.askP twoP
 rfl
theorem twoP_none {N left : Nat} {t : Bs} (h : Ar.askP N left t = none) : twoP N left t = none := by unfold twoP; rw [h]
theorem twoP_some {N left l : Nat} {t r : Bs} {a : Ask} (h : Ar.askP N left t = some (a, r, l)) : twoP N left t = twoR N a r l := by unfold twoP; rw [h]
theorem twoR_or (N : Nat) (a : Ask) (r : Bs) (l : Nat) : twoR N a (124 :: r) l = twoE 6 a (Ar.askP N l r) := rfl
theorem twoR_and (N : Nat) (a : Ask) (r : Bs) (l : Nat) : twoR N a (38 :: r) l = twoE 5 a (Ar.askP N l r) := rfl
theorem twoR_no {N : Nat} {a : Ask} {r : Bs} {l : Nat} (h1 : ∀ t, r ≠ 124 :: t) (h2 : ∀ t, r ≠ 38 :: t) : twoR N a r l = none := by
 unfold twoR
 split
 ·rename_i t; exact absurd rfl (h1 t)
 ·rename_i t; exact absurd rfl (h2 t)
 ·rfl
theorem twoE_no {k : Int} {a b : Ask} {r : Bs} {l : Nat} (h : ∀ t, r ≠ 41 :: t) : twoE k a (some (b, r, l)) = none := by
 unfold twoE
 split
 ·rename_i e; injection e with e; injection e with e1 e2; injection e2 with e2 e3; exact absurd e2 (h _)
 ·rfl
def zero5 : Value := .agg #[.int .i64 0, .string ⟨#[]⟩, .string ⟨#[]⟩, .int .i64 0, .slice none 0 0]
theorem five_zero : Five zero5 := ⟨_, _, _, _, _, _, _, rfl⟩
structure Box5 (c : Nat) (w : World) : Prop where
 lt : c < w.heap.size
 r0 : w.cell? ⟨c, 0, none⟩ = some (.int .i64 0)
 r1 : w.cell? ⟨c, 1, none⟩ = some (.string ⟨#[]⟩)
 r2 : w.cell? ⟨c, 2, none⟩ = some (.string ⟨#[]⟩)
 r3 : w.cell? ⟨c, 3, none⟩ = some (.int .i64 0)
 r4 : w.cell? ⟨c, 4, none⟩ = some (.slice none 0 0)
 fz : ∀ i, w.frozen? ⟨c, i, none⟩ = false
theorem Box5.top {w : World} {t : TypeId} {c : Nat} (hc : c = w.heap.size) : Box5 c (w.alloc (.cells #[.int .i64 0, .string ⟨#[]⟩, .string ⟨#[]⟩, .int .i64 0, .slice none 0 0] t)) :=
 ⟨by rw [hc]; simp, (cell_top _ _ _ _ _ hc).trans rfl, (cell_top _ _ _ _ _ hc).trans rfl, (cell_top _ _ _ _ _ hc).trans rfl, (cell_top _ _ _ _ _ hc).trans rfl, (cell_top _ _ _ _ _ hc).trans rfl, fun i => frozen_top _ _ _ _ _ hc⟩
theorem Box5.but {rb c : Nat} {w w' : World} (h : Box5 c w) (hb : But rb w w') (hc : c ≠ rb) : Box5 c w' :=
 ⟨Nat.lt_of_lt_of_le h.lt hb.size, (hb.cell (p := ⟨c, 0, none⟩) h.lt hc).trans h.r0, (hb.cell (p := ⟨c, 1, none⟩) h.lt hc).trans h.r1, (hb.cell (p := ⟨c, 2, none⟩) h.lt hc).trans h.r2, (hb.cell (p := ⟨c, 3, none⟩) h.lt hc).trans h.r3, (hb.cell (p := ⟨c, 4, none⟩) h.lt hc).trans h.r4, fun i => (hb.frozen (p := ⟨c, i, none⟩) h.lt hc).trans (h.fz i)⟩
theorem five_but {rb c : Nat} {w W : World} (h : But rb w W) (hc : w.heap.size ≤ c) (v0 v1 v2 v3 v4 : Value) : But rb w (five W c v0 v1 v2 v3 v4) :=
 ((((h.setCell (a := ⟨c, 0, none⟩) (.inr hc) v0).setCell (a := ⟨c, 1, none⟩) (.inr hc) v1).setCell (a := ⟨c, 2, none⟩) (.inr hc) v2).setCell (a := ⟨c, 3, none⟩) (.inr hc) v3).setCell (a := ⟨c, 4, none⟩) (.inr hc) v4
theorem RdrW.five {rb left c : Nat} {s : Bs} {w : World} (h : RdrW rb s left w) (hc : c ≠ rb) (v0 v1 v2 v3 v4 : Value) : RdrW rb s left (five w c v0 v1 v2 v3 v4) :=
 ((((h.putO (a := ⟨c, 0, none⟩) hc v0).putO (a := ⟨c, 1, none⟩) hc v1).putO (a := ⟨c, 2, none⟩) hc v2).putO (a := ⟨c, 3, none⟩) hc v3).putO (a := ⟨c, 4, none⟩) hc v4
theorem RdrW.alloc {rb left : Nat} {s : Bs} {w : World} (h : RdrW rb s left w) (o : Obj) : RdrW rb s left (w.alloc o) := h.step ((Below.refl w.heap.size w).alloc lr o) h.lt
theorem RdrW.drew {rb left : Nat} {s : Bs} {w : World} (h : RdrW rb s left w) : RdrW rb s left w.drew := h.step ((Below.refl w.heap.size w).drew) h.lt
mutual
theorem AskVP.lt' {p : Nat → Prop} {w : World} : ∀ (x : Ask) (v : Value), AskVP p w x v → AskVP (fun b => p b ∧ b < w.heap.size) w x v
 | .mk k a b n l, v, h => by
  rw [AskVP] at h ⊢
  obtain ⟨ad, len, cap, e, h1, h2, h3, h5, h6, h4⟩ := h
  refine ⟨ad, len, cap, e, h1, h2, h3, h5, h6, fun hp => ?_⟩
  obtain ⟨bl, off, e2, hlt, hpb, hh⟩ := h4 hp
  exact ⟨bl, off, e2, hlt, ⟨hpb, hlt⟩, AsksVP.lt' l bl off hh⟩
theorem AsksVP.lt' {p : Nat → Prop} {w : World} : ∀ (l : List Ask) (b off : Nat), AsksVP p w l b off → AsksVP (fun b => p b ∧ b < w.heap.size) w l b off
 | [], _, _, _ => by rw [AsksVP]; trivial
 | x :: l, b, off, h => by
  rw [AsksVP] at h ⊢
  obtain ⟨⟨v, h1, h2⟩, h3⟩ := h
  exact ⟨⟨v, h1, AskVP.lt' x v h2⟩, AsksVP.lt' l b (off + 5) h3⟩
end
theorem AskVP.both {p : Nat → Prop} {w w' : World} {x : Ask} {v : Value} (h : AskVP p w x v) (hs : w.heap.size ≤ w'.heap.size) (he : ∀ b, p b → b < w.heap.size → w'.heap[b]? = w.heap[b]?) : AskVP (fun b => p b ∧ b < w.heap.size) w' x v :=
 AskVP.stays (fun b h => h) hs (fun b h hb => he b h.1 hb) _ _ (AskVP.lt' _ _ h)
theorem leaf_vp {p : Nat → Prop} {w : World} (k : Int) (a b : Bs) (n : Int) (ha : a.length ≤ 9223372036854775807) (hb : b.length ≤ 9223372036854775807) : AskVP p w (.mk k a b n []) (.agg #[.int .i64 k, .string (bts a), .string (bts b), .int .i64 n, .slice none 0 0]) := by
 rw [AskVP]
 exact ⟨none, 0, 0, rfl, rfl, Nat.le_refl _, by omega, ha, hb, fun h => absurd h (by omega)⟩
theorem take_yes2 (rb left : Nat) (c : UInt8) (t : Bs) (w : World) (h : RdrW rb (c :: t) left w) (hl : t.length ≤ 1099511627776) : Calls Tryz.prog 91 #[.pointer (some ⟨rb, 0, none⟩), .int .u8 (c.toNat : Int)] w fun e w' => e = .returned (.bool true) ∧ RdrW rb t left w' ∧ But rb w w' := by
 refine Calls.mono (take_yes rb left c t w h hl) ?_
 rintro e w' ⟨rfl, rfl⟩
 exact ⟨rfl, h.putS t, (But.refl rb w).setCell (a := ⟨rb, 0, none⟩) (.inl rfl) _⟩
theorem tree_one {S c B : Nat} {W : World} {y : Ask} {x0 x3 : Int} {x1 x2 : ByteArray} {xd : Option Addr} {xl xc : Nat} {t' : TypeId} (hS : S ≤ W.heap.size) (hc : c < S) (hB : B ≤ S)
  (HX : AskVP (fun b => S ≤ b) W y (.agg #[.int .i64 x0, .string x1, .string x2, .int .i64 x3, .slice xd xl xc])) (v0 v1 v2 v3 v4 : Value) :
  AskVP (fun b => B ≤ b) ((five W c v0 v1 v2 v3 v4).alloc (.cells #[.int .i64 x0, .string x1, .string x2, .int .i64 x3, .slice xd xl xc] t')) (.mk 4 [] [] 0 [y]) (.agg #[.int .i64 4, .string ⟨#[]⟩, .string ⟨#[]⟩, .int .i64 0, .slice (some ⟨W.heap.size, 0, none⟩) 1 1]) := by
 obtain ⟨F, hF⟩ : ∃ F, five W c v0 v1 v2 v3 v4 = F := ⟨_, rfl⟩
 have hsz : F.heap.size = W.heap.size := by rw [← hF, five_size]
 have h5 : ∀ b, b ≠ c → F.heap[b]? = W.heap[b]? := fun b hb => by rw [← hF]; exact five_heap _ _ _ _ _ _ _ b hb
 rw [hF]
 have hcell : ∀ i, (F.alloc (.cells #[.int .i64 x0, .string x1, .string x2, .int .i64 x3, .slice xd xl xc] t')).cell? ⟨W.heap.size, i, none⟩ = (#[.int .i64 x0, .string x1, .string x2, .int .i64 x3, .slice xd xl xc] : Array Value)[i]? := fun i => cell_top _ _ _ _ _ hsz.symm
 have hold : ∀ b, b ≠ c → b < W.heap.size → (F.alloc (.cells #[.int .i64 x0, .string x1, .string x2, .int .i64 x3, .slice xd xl xc] t')).heap[b]? = W.heap[b]? := fun b h1 hb => (Below.heap_alloc _ _ _ (by omega)).trans (h5 b h1)
 rw [AskVP]
 refine ⟨_, _, _, rfl, rfl, Nat.le_refl _, by omega, by simp, by simp, fun _ => ⟨_, _, rfl, by simp; omega, by show B ≤ W.heap.size; omega, ?_⟩⟩
 rw [AsksVP, AsksVP]
 refine ⟨⟨.agg #[.int .i64 x0, .string x1, .string x2, .int .i64 x3, .slice xd xl xc], ⟨_, _, _, _, _, rfl, (hcell _).trans rfl, (hcell _).trans rfl, (hcell _).trans rfl, (hcell _).trans rfl, (hcell _).trans rfl⟩, ?_⟩, trivial⟩
 exact AskVP.stays (fun b h => Nat.le_trans hB h) (by simp; omega) (fun b h hlt => hold b (by omega) hlt) _ _ HX
def AskR (rb : Nat) (w : World) (o : Option (Ask × Bs × Nat)) (bv : Bool) (v : Value) (w' : World) : Prop :=
 match o with
 | some (x, r, l) => bv = true ∧ AskVP (fun b => w.heap.size ≤ b) w' x v ∧ RdrW rb r l w'
 | none => bv = false ∧ ∃ r l, r.length ≤ 1048576 ∧ RdrW rb r l w'
theorem AskQ.form {rb : Nat} {w w' : World} {o : Option (Ask × Bs × Nat)} {e : Ending} (h : AskQ rb w o e w') : But rb w w' ∧ ∃ (bv : Bool) (x0 : Int) (x1 x2 : ByteArray) (x3 : Int) (xd : Option Addr) (xl xc : Nat), e = .returned (.tuple #[.agg #[.int .i64 x0, .string x1, .string x2, .int .i64 x3, .slice xd xl xc], .bool bv]) ∧ AskR rb w o bv (.agg #[.int .i64 x0, .string x1, .string x2, .int .i64 x3, .slice xd xl xc]) w' := by
 obtain ⟨hb, h⟩ := h
 cases o with
 | none =>
  obtain ⟨v, rfl, ⟨x0, x1, x2, x3, xd, xl, xc, rfl⟩, r, l, h1, h2⟩ := h
  exact ⟨hb, _, _, _, _, _, _, _, _, rfl, rfl, r, l, h1, h2⟩
 | some p =>
  obtain ⟨x, r, l⟩ := p
  obtain ⟨v, rfl, ⟨x0, x1, x2, x3, xd, xl, xc, rfl⟩, h1, h2⟩ := h
  exact ⟨hb, _, _, _, _, _, _, _, _, rfl, rfl, h1, h2⟩
theorem AskQ.mk' {rb : Nat} {w w' : World} {o : Option (Ask × Bs × Nat)} {bv : Bool} {x0 : Int} {x1 x2 : ByteArray} {x3 : Int} {xd : Option Addr} {xl xc : Nat} (hb : But rb w w') (h : AskR rb w o bv (.agg #[.int .i64 x0, .string x1, .string x2, .int .i64 x3, .slice xd xl xc]) w') : AskQ rb w o (.returned (.tuple #[.agg #[.int .i64 x0, .string x1, .string x2, .int .i64 x3, .slice xd xl xc], .bool bv])) w' := by
 refine ⟨hb, ?_⟩
 cases o with
 | none =>
  obtain ⟨rfl, r, l, h1, h2⟩ := h
  exact ⟨_, rfl, ⟨_, _, _, _, _, _, _, rfl⟩, r, l, h1, h2⟩
 | some p =>
  obtain ⟨x, r, l⟩ := p
  obtain ⟨rfl, h1, h2⟩ := h
  exact ⟨_, rfl, ⟨_, _, _, _, _, _, _, rfl⟩, h1, h2⟩
theorem take_yes3 (rb left : Nat) (k : Int) (c : UInt8) (hk : (c.toNat : Int) = k) (t : Bs) (w : World) (h : RdrW rb (c :: t) left w) (hl : t.length ≤ 1099511627776) : Calls Tryz.prog 91 #[.pointer (some ⟨rb, 0, none⟩), .int .u8 k] w fun e w' => e = .returned (.bool true) ∧ RdrW rb t left w' ∧ But rb w w' := by
 subst hk; exact take_yes2 rb left c t w h hl
theorem take_no3 (rb left : Nat) (k : Int) (c : UInt8) (hk : (c.toNat : Int) = k) (s : Bs) (w : World) (h : RdrW rb s left w) (hn : ∀ t, s ≠ c :: t) : Calls Tryz.prog 91 #[.pointer (some ⟨rb, 0, none⟩), .int .u8 k] w fun e w' => e = .returned (.bool false) ∧ w = w' := by
 subst hk; exact take_no rb left c s w h hn
def elseP (A R : Bs) (l : Nat) : Option (Ask × Bs × Nat) := match R with
 | 62 :: 61 :: t => match Lib.parseIntB 64 (Ar.word t) with
  | .ok n => some (.mk 3 A [] n [], Ar.rest t, l)
  | _ => none
 | 61 :: t => some (.mk 2 A (Ar.word t) 0 [], Ar.rest t, l)
 | _ => none
theorem elseP_more (A t : Bs) (l : Nat) : elseP A (62 :: 61 :: t) l = match numB (Ar.word t) with | some n => some (.mk 3 A [] n [], Ar.rest t, l) | none => none := by
 show (match Lib.parseIntB 64 (Ar.word t) with | .ok n => some (Ask.mk 3 A [] n [], Ar.rest t, l) | _ => none) = _
 unfold numB
 cases Lib.parseIntB 64 (Ar.word t) <;> rfl
theorem elseP_is (A t : Bs) (l : Nat) : elseP A (61 :: t) l = some (.mk 2 A (Ar.word t) 0 [], Ar.rest t, l) := rfl
theorem elseP_no1 {A t1 : Bs} {l : Nat} (h : ∀ t, t1 ≠ 61 :: t) : elseP A (62 :: t1) l = none := by
 unfold elseP
 split
 ·rename_i t e; injection e with e1 e2; exact absurd e2 (h t)
 ·rename_i t e; injection e with e1 e2; exact absurd e1 (by decide)
 ·rfl
theorem elseP_no2 {A R : Bs} {l : Nat} (h1 : ∀ t, R ≠ 62 :: t) (h2 : ∀ t, R ≠ 61 :: t) : elseP A R l = none := by
 unfold elseP
 split
 ·rename_i t; exact absurd rfl (h1 _)
 ·rename_i t; exact absurd rfl (h2 _)
 ·rfl
theorem askP_else {N left : Nat} {s : Bs} (h63 : ∀ t, s ≠ 63 :: t) (h33 : ∀ t, s ≠ 33 :: t) (h40 : ∀ t, s ≠ 40 :: t) : Ar.askP (N + 1) (left + 1) s = elseP (Ar.word s) (Ar.rest s) left := by
 unfold Ar.askP elseP
 rw [if_neg (by omega)]
 split
 ·rename_i t; exact absurd rfl (h63 t)
 ·rename_i t; exact absurd rfl (h33 t)
 ·rename_i t; exact absurd rfl (h40 t)
 ·rfl
inductive UpK (rb c : Nat) (w : World) : World → Prop where
 | refl : UpK rb c w w
 | alloc {w' : World} (o : Obj) : UpK rb c w w' → UpK rb c w (w'.alloc o)
 | drew {w' : World} : UpK rb c w w' → UpK rb c w w'.drew
 | setR {w' : World} (i : Nat) (u : Value) : UpK rb c w w' → UpK rb c w (w'.setCell ⟨rb, i, none⟩ u)
 | setC {w' : World} (i : Nat) (u : Value) : UpK rb c w w' → UpK rb c w (w'.setCell ⟨c, i, none⟩ u)
 | but {w' w'' : World} : UpK rb c w w' → But rb w' w'' → UpK rb c w w''
theorem UpK.keep {rb c : Nat} {w w' : World} (h : UpK rb c w w') : w.heap.size ≤ w'.heap.size ∧ ∀ k, k < w.heap.size → k ≠ rb → k ≠ c → w'.heap[k]? = w.heap[k]? := by
 induction h with
 | refl => exact ⟨Nat.le_refl _, fun _ _ _ _ => rfl⟩
 | alloc o _ ih => exact ⟨Nat.le_trans ih.1 (by simp), fun k h1 h2 h3 => (Below.heap_alloc _ _ _ (Nat.lt_of_lt_of_le h1 ih.1)).trans (ih.2 k h1 h2 h3)⟩
 | drew _ ih => exact ih
 | setR i u _ ih => exact ⟨by simpa using ih.1, fun k h1 h2 h3 => (Below.heap_setCell _ _ _ _ h2).trans (ih.2 k h1 h2 h3)⟩
 | setC i u _ ih => exact ⟨by simpa using ih.1, fun k h1 h2 h3 => (Below.heap_setCell _ _ _ _ h3).trans (ih.2 k h1 h2 h3)⟩
 | but _ hb ih => exact ⟨Nat.le_trans ih.1 hb.size, fun k h1 h2 h3 => (hb.block k (Nat.lt_of_lt_of_le h1 ih.1) h2).trans (ih.2 k h1 h2 h3)⟩
theorem UpK.cell {rb c : Nat} {w w' : World} (h : UpK rb c w w') {p : Addr} (h1 : p.block < w.heap.size) (h2 : p.block ≠ rb) (h3 : p.block ≠ c) : w'.cell? p = w.cell? p := World.cell?_of_block (w := w) (h.keep.2 _ h1 h2 h3)
theorem tree_two {rb c B G : Nat} {W5 W6 : World} {ya yb : Ask} {kk : Int} {x0 x3 y0 y3 : Int} {x1 x2 y1 y2 : ByteArray} {xd yd : Option Addr} {xl xc yl yc : Nat} {pa pb : Nat → Prop} (hk : UpK rb c W5 W6) (hG : G < W6.heap.size) (hGB : B ≤ G) (hGc : G ≠ c)
  (hcell : ∀ i, W6.cell? ⟨G, i, none⟩ = (#[.int .i64 x0, .string x1, .string x2, .int .i64 x3, .slice xd xl xc, .int .i64 y0, .string y1, .string y2, .int .i64 y3, .slice yd yl yc] : Array Value)[i]?)
  (HA : AskVP pa W5 ya (.agg #[.int .i64 x0, .string x1, .string x2, .int .i64 x3, .slice xd xl xc])) (hpa : ∀ b, pa b → B ≤ b ∧ b ≠ rb ∧ b ≠ c)
  (HB : AskVP pb W5 yb (.agg #[.int .i64 y0, .string y1, .string y2, .int .i64 y3, .slice yd yl yc])) (hpb : ∀ b, pb b → B ≤ b ∧ b ≠ rb ∧ b ≠ c) (v0 v1 v2 v3 v4 : Value) :
  AskVP (fun b => B ≤ b) (five W6 c v0 v1 v2 v3 v4) (.mk kk [] [] 0 [ya, yb]) (.agg #[.int .i64 kk, .string ⟨#[]⟩, .string ⟨#[]⟩, .int .i64 0, .slice (some ⟨G, 0, none⟩) 2 2]) := by
 have h5 : ∀ b, b ≠ c → (five W6 c v0 v1 v2 v3 v4).heap[b]? = W6.heap[b]? := fun b hb => five_heap _ _ _ _ _ _ _ b hb
 have hc : ∀ i, (five W6 c v0 v1 v2 v3 v4).cell? ⟨G, i, none⟩ = (#[.int .i64 x0, .string x1, .string x2, .int .i64 x3, .slice xd xl xc, .int .i64 y0, .string y1, .string y2, .int .i64 y3, .slice yd yl yc] : Array Value)[i]? := fun i => (cell_of_block (p := ⟨G, i, none⟩) (h5 _ hGc)).trans (hcell i)
 have hs : W5.heap.size ≤ (five W6 c v0 v1 v2 v3 v4).heap.size := by rw [five_size]; exact hk.keep.1
 rw [AskVP]
 refine ⟨_, _, _, rfl, rfl, Nat.le_refl _, by omega, by simp, by simp, fun _ => ⟨_, _, rfl, by rw [five_size]; exact hG, hGB, ?_⟩⟩
 rw [AsksVP, AsksVP, AsksVP]
 refine ⟨⟨.agg #[.int .i64 x0, .string x1, .string x2, .int .i64 x3, .slice xd xl xc], ⟨_, _, _, _, _, rfl, (hc _).trans rfl, (hc _).trans rfl, (hc _).trans rfl, (hc _).trans rfl, (hc _).trans rfl⟩, ?_⟩, ⟨.agg #[.int .i64 y0, .string y1, .string y2, .int .i64 y3, .slice yd yl yc], ⟨_, _, _, _, _, rfl, (hc _).trans rfl, (hc _).trans rfl, (hc _).trans rfl, (hc _).trans rfl, (hc _).trans rfl⟩, ?_⟩, trivial⟩
 ·exact AskVP.stays (fun b h => (hpa b h).1) hs (fun b h hb => (h5 b (hpa b h).2.2).trans (hk.keep.2 b hb (hpa b h).2.1 (hpa b h).2.2)) _ _ HA
 ·exact AskVP.stays (fun b h => (hpb b h).1) hs (fun b h hb => (h5 b (hpb b h).2.2).trans (hk.keep.2 b hb (hpb b h).2.1 (hpb b h).2.2)) _ _ HB
end Go.Proofs.YtkemlckmfgacdaaGreatDoor
