/- The reader of an ask's text in memory; its take and its word. -/
import Derived.Test.YtddcaabhbbdbpaaDoorIdxAny
import Derived.Test.YtddcaabhbbdbpaaDoorAskFive
import Derived.Test.YtddcaabhbbdbpaaDoorNeedRd0
namespace Go.Proofs.YtddcaabhbbdbpaaDoor
open Go.ChangeShapes Go.WideShapes Go.ChangeAt Go.RowKit
set_option linter.unusedVariables false
open Tp
/-- all but one block is kept -/
structure But (rb : Nat) (w w' : World) : Prop where
  os : w'.os = w.os
  tape : w'.tape = w.tape
  out : w'.output = w.output
  size : w.heap.size ≤ w'.heap.size
  block : ∀ k, k < w.heap.size → k ≠ rb → w'.heap[k]? = w.heap[k]?
theorem But.refl (rb : Nat) (w : World) : But rb w w := ⟨rfl, rfl, rfl, Nat.le_refl _, fun _ _ _ => rfl⟩
theorem But.ofBelow {rb B : Nat} {w w' : World} (h : Below B w w') (hB : w.heap.size ≤ B) : But rb w w' := ⟨h.os, h.tape, h.output, h.size, fun k hk _ => h.block k (by omega)⟩
theorem But.trans {rb : Nat} {a b c : World} (h : But rb a b) (k : But rb b c) : But rb a c :=
  ⟨k.os.trans h.os, k.tape.trans h.tape, k.out.trans h.out, Nat.le_trans h.size k.size, fun j hj hr => (k.block j (Nat.lt_of_lt_of_le hj h.size) hr).trans (h.block j hj hr)⟩
theorem But.below {rb B : Nat} {w w' : World} (h : But rb w w') (hB : B ≤ rb) (hs : B ≤ w.heap.size) : Below B w w' := ⟨h.os, h.tape, h.out, h.size, fun k hk => h.block k (by omega) (by omega)⟩
theorem But.cell {rb : Nat} {w w' : World} (h : But rb w w') {p : Addr} (h1 : p.block < w.heap.size) (h2 : p.block ≠ rb) : w'.cell? p = w.cell? p := World.cell?_of_block (w := w) (h.block _ h1 h2)
theorem But.frozen {rb : Nat} {w w' : World} (h : But rb w w') {p : Addr} (h1 : p.block < w.heap.size) (h2 : p.block ≠ rb) : w'.frozen? p = w.frozen? p := World.frozen?_of_block (w := w) (h.block _ h1 h2)
theorem But.setCell {rb : Nat} {w w' : World} (h : But rb w w') {a : Addr} (ha : a.block = rb ∨ w.heap.size ≤ a.block) (u : Value) : But rb w (w'.setCell a u) :=
  ⟨h.os, h.tape, h.out, by simpa using h.size, fun k hk hr => (Below.heap_setCell _ _ _ _ (by rcases ha with e | e <;> omega)).trans (h.block k hk hr)⟩
theorem But.alloc {rb : Nat} {w w' : World} (h : But rb w w') (o : Obj) : But rb w (w'.alloc o) :=
  ⟨h.os, h.tape, h.out, Nat.le_trans h.size (by simp), fun k hk hr => (Below.heap_alloc _ _ _ (Nat.lt_of_lt_of_le hk h.size)).trans (h.block k hk hr)⟩
theorem But.drew {rb : Nat} {w w' : World} (h : But rb w w') : But rb w w'.drew := ⟨h.os, h.tape, h.out, h.size, h.block⟩
/-- a reader lies at rb -/
structure RdrW (rb : Nat) (s : Bs) (left : Nat) (w : World) : Prop where
  lt : rb < w.heap.size
  s' : w.cell? ⟨rb, 0, none⟩ = some (.string (bts s))
  l' : w.cell? ⟨rb, 1, none⟩ = some (.int .i64 (left : Int))
  f0 : w.frozen? ⟨rb, 0, none⟩ = false
  f1 : w.frozen? ⟨rb, 1, none⟩ = false
theorem RdrW.step {rb left C : Nat} {s : Bs} {w w' : World} (h : RdrW rb s left w) (hb : Below C w w') (hC : rb < C) : RdrW rb s left w' :=
  ⟨Nat.lt_of_lt_of_le h.lt hb.size, (hb.cell (p := ⟨rb, 0, none⟩) hC).trans h.s', (hb.cell (p := ⟨rb, 1, none⟩) hC).trans h.l', (hb.frozen (p := ⟨rb, 0, none⟩) hC).trans h.f0, (hb.frozen (p := ⟨rb, 1, none⟩) hC).trans h.f1⟩
theorem RdrW.putS {rb left : Nat} {s : Bs} {w : World} (h : RdrW rb s left w) (t : Bs) : RdrW rb t left (w.setCell ⟨rb, 0, none⟩ (.string (bts t))) :=
  ⟨by simpa using h.lt, World.cell?_setCell_same _ _ _ h.s', by rw [World.cell?_setCell_other _ _ _ _ (by intro e; have := congrArg Addr.off e; simp at this)]; exact h.l', by rw [World.frozen?_setCell]; exact h.f0, by rw [World.frozen?_setCell]; exact h.f1⟩
theorem RdrW.putL {rb left : Nat} {s : Bs} {w : World} (h : RdrW rb s left w) (l : Nat) : RdrW rb s l (w.setCell ⟨rb, 1, none⟩ (.int .i64 (l : Int))) :=
  ⟨by simpa using h.lt, by rw [World.cell?_setCell_other _ _ _ _ (by intro e; have := congrArg Addr.off e; simp at this)]; exact h.s', World.cell?_setCell_same _ _ _ h.l', by rw [World.frozen?_setCell]; exact h.f0, by rw [World.frozen?_setCell]; exact h.f1⟩
theorem RdrW.putO {rb left : Nat} {s : Bs} {w : World} (h : RdrW rb s left w) {a : Addr} (ha : a.block ≠ rb) (u : Value) : RdrW rb s left (w.setCell a u) :=
  ⟨by simpa using h.lt, by rw [World.cell?_setCell_other _ _ _ _ (by intro e; exact ha (congrArg Addr.block e))]; exact h.s', by rw [World.cell?_setCell_other _ _ _ _ (by intro e; exact ha (congrArg Addr.block e))]; exact h.l', by rw [World.frozen?_setCell]; exact h.f0, by rw [World.frozen?_setCell]; exact h.f1⟩
set_option maxRecDepth 20000 in
set_option maxHeartbeats 4000000 in
theorem take_no (rb left : Nat) (c : UInt8) (s : Bs) (w : World) (h : RdrW rb s left w) (hn : ∀ t, s ≠ c :: t) : Calls Tryd.prog 20 #[.pointer (some ⟨rb, 0, none⟩), .int .u8 (c.toNat : Int)] w fun e w' => e = .returned (.bool false) ∧ w = w' := by
  have d0 := h.s'
  have hlt := h.lt
  cases s with
  | nil =>
    clear hn h
    go_enter Tryd.func20, Tryd.ntmps20
    rw [show bts [] = (⟨#[]⟩ : ByteArray) from rfl] at d0
    go_wp2_with fail
    go_ret
    exact ⟨rfl, rfl⟩
  | cons x t =>
    have hxc : ¬ x = c := fun e => hn t (by rw [e])
    have hne : ((x.toNat : Int) == (c.toNat : Int)) = false := by
      simp only [beq_eq_false_iff_ne]
      intro e
      exact hxc (UInt8.toNat_inj.1 (by omega))
    obtain ⟨S, hS⟩ : ∃ S, bts (x :: t) = S := ⟨_, rfl⟩
    rw [hS] at d0
    have hsz : 0 < S.size := by rw [← hS, bts_size]; simp
    have hS0 : S[0]'hsz = x := lst_at (s := S) (by rw [← hS, lst_bts]; rfl) hsz
    have hSl : ¬ S.toList = [] := by rw [← hS, bts_toList]; simp
    have hSl2 : S.toList.isEmpty = false := by rw [← hS, bts_toList]; rfl
    clear hn h hxc hS
    go_enter Tryd.func20, Tryd.ntmps20
    go_wp2_with fail
    go_ret
    exact ⟨rfl, rfl⟩
set_option maxRecDepth 20000 in
set_option maxHeartbeats 4000000 in
theorem take_yes (rb left : Nat) (c : UInt8) (t : Bs) (w : World) (h : RdrW rb (c :: t) left w) (hl : t.length ≤ 1099511627776) : Calls Tryd.prog 20 #[.pointer (some ⟨rb, 0, none⟩), .int .u8 (c.toNat : Int)] w fun e w' => e = .returned (.bool true) ∧ w.setCell ⟨rb, 0, none⟩ (.string (bts t)) = w' := by
  have d0 := h.s'
  have f0 := h.f0
  have hlt := h.lt
  have hne : ((c.toNat : Int) == (c.toNat : Int)) = true := by simp
  obtain ⟨S, hS⟩ : ∃ S, bts (c :: t) = S := ⟨_, rfl⟩
  rw [hS] at d0
  obtain ⟨n, hn⟩ : ∃ n, S.size = n := ⟨_, rfl⟩
  have hnl : n = t.length + 1 := by rw [← hn, ← hS, bts_size]; rfl
  have hsz : 0 < S.size := by rw [← hS, bts_size]; simp
  have hS0 : S[0]'hsz = c := lst_at (s := S) (by rw [← hS, lst_bts]; rfl) hsz
  have hSl : ¬ S.toList = [] := by rw [← hS, bts_toList]; simp
  have hSl2 : S.toList.isEmpty = false := by rw [← hS, bts_toList]; rfl
  have hext : S.extract 1 n = bts t := by
    rw [← hS, hnl]
    have := Nr.ext_drop (c :: t) 1
    simpa using this
  obtain ⟨T, hT⟩ : ∃ T, bts t = T := ⟨_, rfl⟩
  rw [hT] at hext ⊢
  have h1n : (1 : Int) ≤ (n : Int) := by omega
  clear h hS hT hnl
  go_enter Tryd.func20, Tryd.ntmps20
  go_wp2_with fail
  go_ret
  exact ⟨rfl, rfl⟩
set_option maxRecDepth 20000 in
set_option maxHeartbeats 4000000 in
theorem word_any (rb left : Nat) (s : Bs) (w : World) (h : RdrW rb s left w) (hl : s.length < 4294967281) : Calls Tryd.prog 21 #[.pointer (some ⟨rb, 0, none⟩)] w fun e w' => e = .returned (.string (bts (Ar.word s))) ∧ RdrW rb (Ar.rest s) left w' ∧ But rb w w' := by
  have HR := Lib.hid h
  have d0 := h.s'
  have hlt := h.lt
  obtain ⟨S, hS⟩ : ∃ S, bts s = S := ⟨_, rfl⟩
  obtain ⟨n, hn⟩ : ∃ n, S.size = n := ⟨_, rfl⟩
  have hns : n = s.length := by rw [← hn, ← hS, bts_size]
  have HI := Lib.hid (IndexAny_any s w hl)
  rw [hS] at d0 HI
  obtain ⟨k, hk⟩ : ∃ k, (Ar.word s).length = k := ⟨_, rfl⟩
  have hkn : k ≤ n := by rw [← hk, hns]; exact Ar.word_len s
  have hx1 : S.extract 0 k = bts (Ar.word s) := by rw [← hS, Nr.ext_take, ← hk, (Ar.word_take s).1]
  have hx2 : S.extract k n = bts (Ar.rest s) := by rw [← hS, hns, Nr.ext_drop, ← hk, (Ar.word_take s).2]
  have HIX := Lib.hid (Ar.index_word s)
  have HWA : Hid (Ar.rest s = [] → k = n) := Lib.hid (fun e => by rw [← hk, Ar.word_all e, hns])
  obtain ⟨A, hA⟩ : ∃ A, bts (Ar.word s) = A := ⟨_, rfl⟩
  obtain ⟨R, hR⟩ : ∃ A, bts (Ar.rest s) = A := ⟨_, rfl⟩
  have HRR := Lib.hid hR
  rw [hA] at hx1 ⊢
  rw [hR] at hx2
  rw [hk] at HIX
  have hk0 : (0 : Int) ≤ (k : Int) := by omega
  have hk1 : (k : Int) ≤ (n : Int) := by omega
  obtain ⟨ix, hix⟩ : ∃ i, Lib.indexAny s Ar.signs = i := ⟨_, rfl⟩
  rw [hix] at HI HIX
  have HX1 := Lib.hid hx1
  clear h hS hns hk hix hA hR
  go_enter Tryd.func21, Tryd.ntmps21
  go_wp2_with fail
  refine Calls.mono HI.out ?_
  rintro e w1 ⟨rfl, hb⟩
  have HR1 : Hid (RdrW rb s left w1) := Lib.hid (HR.out.step hb hlt)
  have HB := Lib.hid hb
  replace d0 := (hb.cell (p := ⟨rb, 0, none⟩) hlt).trans d0
  have f0 := HR1.out.f0
  clear hb
  by_cases hr : Ar.rest s = []
  · obtain rfl : ix = -1 := by have := HIX.out; rwa [if_pos hr] at this
    obtain rfl : k = n := HWA.out hr
    have HR0 := Lib.hid hr
    clear hr
    go_wp2_with fail
    go_ret
    exact ⟨rfl, by rw [HR0.out]; exact HR1.out.putS [], (But.ofBelow (rb := rb) HB.out (Nat.le_refl _)).setCell (a := ⟨rb, 0, none⟩) (.inl rfl) _⟩
  · obtain rfl : ix = (k : Int) := by have := HIX.out; rwa [if_neg hr] at this
    clear hr
    go_wp2_with fail
    go_ret
    exact ⟨rfl, by rw [← HRR.out]; exact HR1.out.putS _, (But.ofBelow (rb := rb) HB.out (Nat.le_refl _)).setCell (a := ⟨rb, 0, none⟩) (.inl rfl) _⟩
end Go.Proofs.YtddcaabhbbdbpaaDoor
