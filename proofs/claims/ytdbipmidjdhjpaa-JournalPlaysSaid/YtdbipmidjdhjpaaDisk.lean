/- JournalPlays: what a disk is in memory; an append whose source may be nil. -/
import Derived.Test.YtdbipmidjdhjpaaBase
import Derived.Maps.AppendAt
import Derived.Laws.AppendOwnNone
import Derived.Deep.RegionHeld3
namespace Go.Proofs.Ytdbipmidjdhjpaa
open Go.ChangeShapes Go.WideShapes Go.ChangeAt Go.RowKit
set_option linter.unusedVariables false

/-- a slice value to be read: nil, or its cells lie there -/
def Src (w : World) (size : Nat) (x : Value) (m : Nat) (news : List Value) : Prop :=
  (x = .slice none 0 0 ∧ m = 0 ∧ news = []) ∨
  (∃ ad c, x = .slice (some ad) m c ∧ news.length = m * size ∧ ∀ j u, news[j]? = some u → w.cell? (ad.add j) = some u)

theorem wpList_append_any {P : Program} {w : World} {ops : Array Oper} {rest : List Oper} {o : Oper} {a : Act} {Q : Exit → Act → World → Prop} (hgd : o.guard = none) (s x : Operand) (t : TypeId)
    (ho : o.op = .call { callee := .builtin .append, args := #[s, x], argTypes := #[t, t] })
    (base : Nat) (e : TypeId) (i : TypeInfo) (z : Value) (size bytes : Nat) (ht : P.underlying t = some (.slice e)) (hi : P.info? e = some i) (hz : i.zero = some z)
    (hsize : i.size = size) (hby : i.bytes = bytes) (hzs : z.cells.size = size) (hsz : 0 < size)
    (v : Value) (n : Nat) (xs : List Value) (hs : a.eval s = v) (hown : w.ownsRow base e size v n xs)
    (xv : Value) (m : Nat) (news : List Value) (hx : a.eval x = xv) (hsrc : Src w size xv m news) (h1 : ∀ u ∈ news, u.oneCell' = true)
    (h63 : n + m ≤ maxLen) (hbytes : (n + m) * bytes ≤ 140737488355328) (hbase : base ≤ w.heap.size)
    (h : ∀ v' w', w'.ownsRow base e size v' (n + m) (xs ++ news) → w.grownBy w' v.ownBlock → (v'.ownBlock = v.ownBlock ∨ v'.ownBlock = some w.heap.size) → wpList P ops Q rest (a.put o.dst v') w') :
    wpList P ops Q (o :: rest) a w := by
  rcases hsrc with ⟨rfl, rfl, rfl⟩ | ⟨ad, c, rfl, hl, hc⟩
  · refine wpList_append_own_none hgd s x t ho base e i size ht hi v n xs hs hown hx ?_
    exact h v w (by simpa using hown) ⟨rfl, rfl, rfl, Nat.le_refl _, fun _ _ _ => rfl⟩ (.inl rfl)
  · exact wpList_append_own_at w hgd s x t ho base e i z size bytes ht hi hz hsize hby hzs hsz v n xs hs hown ad m c news hx hl hc h1 h63 hbytes hbase (fun v' w' p q _ r => h v' w' p q r)

theorem Try.info5 : (Try.prog.info? 5).map (fun i => (i.zero, i.size, i.bytes)) = some (some (.int .u8 0), 1, 1) := by kernel_rfl

/-- what a disk (block B) is: its slice v owns the bytes L; so many are safe -/
def DiskAt (w : World) (base B : Nat) (v : Value) (L : List Int) (s : Nat) : Prop :=
  w.cell? ⟨B, 0, none⟩ = some v ∧ w.cell? ⟨B, 1, none⟩ = some (.int .i64 s) ∧ w.frozen? ⟨B, 0, none⟩ = false ∧ w.frozen? ⟨B, 1, none⟩ = false ∧
    w.ownsRow base 5 1 v L.length (L.map (.int .u8)) ∧ L.length ≤ 100000 ∧ s ≤ L.length

/-- of the blocks that were there, B alone and the block row have turned -/
structure Foot (w w' : World) (B : Nat) (row : Option Nat) : Prop where
  os : w'.os = w.os
  tape : w'.tape = w.tape
  output : w'.output = w.output
  size : w.heap.size ≤ w'.heap.size
  block : ∀ k, k < w.heap.size → k ≠ B → some k ≠ row → w'.heap[k]? = w.heap[k]?
theorem Foot.refl (w : World) (B : Nat) (row : Option Nat) : Foot w w B row := ⟨rfl, rfl, rfl, Nat.le_refl _, fun _ _ _ _ => rfl⟩
theorem Foot.setCell {w w' : World} {B : Nat} {row : Option Nat} (h : Foot w w' B row) (i : Nat) (u : Value) : Foot w (w'.setCell ⟨B, i, none⟩ u) B row :=
  ⟨h.os, h.tape, h.output, by simpa [World.setCell] using h.size, fun k hk hB hr => (Below.heap_setCell _ _ _ _ hB).trans (h.block k hk hB hr)⟩
theorem Foot.of_grown {w w' : World} {row : Option Nat} (h : w.grownBy w' row) (B : Nat) : Foot w w' B row := ⟨h.os, h.tape, h.output, h.size, fun k hk _ hr => h.block k hk hr⟩

theorem slice_shape {w : World} {base : Nat} {v : Value} {n : Nat} {xs : List Value} (h : w.ownsRow base 5 1 v n xs) : ∃ a c, v = .slice a n c ∧ n ≤ c := by
  rcases h.2 with ⟨rfl, rfl⟩ | ⟨g, cap, cur, rfl, _, _, hc, _⟩
  · exact ⟨none, 0, rfl, Nat.le_refl _⟩
  · exact ⟨_, _, rfl, hc⟩

theorem write_full (w : World) (base B : Nat) (v : Value) (L : List Int) (s : Nat) (a : Option Addr) (m c : Nat) (hd : DiskAt w base B v L s) (hm : 100000 < m + L.length) (hm2 : m ≤ 140737488351232) :
    Calls Try.prog 11 #[.pointer (some ⟨B, 0, none⟩), .slice a m c] w fun e w' => e = .returned (.int .i64 7) ∧ w = w' := by
  obtain ⟨c0, c1, f0, f1, hown, hl, hs⟩ := hd
  obtain ⟨va, vc, rfl, hvc⟩ := slice_shape hown
  clear hown
  go_enter Try.func11, Try.ntmps11
  go_wp2
  go_ret
  exact ⟨rfl, rfl⟩

/-- what a call leaves that wrote to a disk: the code, the disk anew, its frame, and where its bytes lie -/
def Wrote (w : World) (base B : Nat) (row : Option Nat) (L : List Int) (s : Nat) (code : Int) (e : Ending) (w' : World) : Prop :=
  e = .returned (.int .i64 code) ∧ ∃ v', DiskAt w' base B v' L s ∧ Foot w w' B row ∧ (v'.ownBlock = row ∨ ∃ g, v'.ownBlock = some g ∧ w.heap.size ≤ g)

theorem ownsRow_set {w : World} {base B i : Nat} {v : Value} {n : Nat} {xs : List Value} (h : w.ownsRow base 5 1 v n xs) (hB : B < base) (u : Value) : (w.setCell ⟨B, i, none⟩ u).ownsRow base 5 1 v n xs :=
  ownsRow_setCell_below h hB u

theorem disk_store {w w1 : World} {base B : Nat} {v v' : Value} {L L' : List Int} {s : Nat} (hd : DiskAt w base B v L s) (hB : B < base) (hrow : v.ownBlock ≠ some B) (hlt : B < w.heap.size)
    (hown : w1.ownsRow base 5 1 v' L'.length (L'.map (.int .u8))) (hg : w.grownBy w1 v.ownBlock) (hl : L'.length ≤ 100000) (hs : s ≤ L'.length) :
    DiskAt (w1.setCell ⟨B, 0, none⟩ v') base B v' L' s := by
  obtain ⟨c0, c1, f0, f1, _, _, _⟩ := hd
  have e0 : w1.cell? ⟨B, 0, none⟩ = some v := hg.cell c0 (fun e => hrow e.symm)
  have e1 : w1.cell? ⟨B, 1, none⟩ = some (.int .i64 s) := hg.cell c1 (fun e => hrow e.symm)
  have g0 : ∀ i, w1.frozen? ⟨B, i, none⟩ = w.frozen? ⟨B, i, none⟩ := fun i => World.frozen?_of_block (hg.block B hlt (fun e => hrow e.symm))
  refine ⟨World.cell?_setCell_same w1 _ _ e0, ?_, ?_, ?_, ownsRow_set hown hB _, hl, hs⟩
  · rw [World.cell?_setCell_other _ _ _ _ (by simp)]; exact e1
  · rw [World.frozen?_setCell, g0]; exact f0
  · rw [World.frozen?_setCell, g0]; exact f1

theorem ints_one (k : IntKind) (xs : List Int) : ∀ u ∈ xs.map (Value.int k), u.oneCell' = true := by
  intro u hu
  simp only [List.mem_map] at hu
  obtain ⟨n, _, rfl⟩ := hu
  rfl
set_option maxRecDepth 100000 in
set_option maxHeartbeats 1000000 in
theorem write_fits (w : World) (base B : Nat) (v : Value) (L xs : List Int) (s : Nat) (a : Option Addr) (c : Nat) (hd : DiskAt w base B v L s) (hB : B < base) (hbase : base ≤ w.heap.size)
    (hm : xs.length + L.length ≤ 100000) (hsrc : Src w 1 (.slice a xs.length c) xs.length (xs.map (.int .u8))) :
    Calls Try.prog 11 #[.pointer (some ⟨B, 0, none⟩), .slice a xs.length c] w (Wrote w base B v.ownBlock (L ++ xs) s 0) := by
  obtain ⟨i0, hi, hz0, hz1, hz2⟩ := info_parts Try.info5
  have hBw : B < w.heap.size := by omega
  have hd' := hd
  obtain ⟨c0, c1, f0, f1, hown, hl, hs⟩ := hd'
  have hrow : v.ownBlock ≠ some B := fun e => by have := (hown.lt B e).1; omega
  have HD := Lib.hid hd
  have HROW := Lib.hid hrow
  obtain ⟨va, vc, rfl, hvc⟩ := slice_shape hown
  have HOWN := Lib.hid hown
  have HSRC := Lib.hid hsrc
  clear hown hsrc hd hrow
  go_enter Try.func11, Try.ntmps11
  go_wp2_with ((at_builtin; refine wpList_append_any rfl (.tmp 18) (.tmp 19) 31 rfl base 5 i0 (.int .u8 0) 1 1 Try.underlying31 hi hz0 hz1 hz2 rfl (by decide) _ _ _ rfl HOWN.out _ _ _ rfl HSRC.out (ints_one .u8 xs) (by unfold maxLen; omega) (by omega) hbase ?_; intro v' w1 hown1 hgrow hat; have HOWN1 := Lib.hid hown1; have HGROW := Lib.hid hgrow; have HAT := Lib.hid hat; have e0 := hgrow.cell c0 (fun e => HROW.out e.symm); have g0 : w1.frozen? ⟨B, 0, none⟩ = false := (World.frozen?_of_block (hgrow.block B hBw (fun e => HROW.out e.symm))).trans f0; obtain ⟨va1, vc1, rfl, hvc1⟩ := slice_shape hown1; clear hown1 hgrow hat))
  go_ret
  refine ⟨rfl, _, disk_store HD.out hB HROW.out hBw (by simpa using HOWN1.out) HGROW.out (by simp; omega) (by simp; omega), (Foot.of_grown HGROW.out B).setCell 0 _, ?_⟩
  rcases HAT.out with h | h
  · exact .inl h
  · exact .inr ⟨_, h, Nat.le_refl _⟩
end Go.Proofs.Ytdbipmidjdhjpaa
