/- Contract: a copy of a row of numbers. -/
import Derived.Test.YtfjoakhcgpckgaaPackFirst
import Derived.Test.YtfjoakhcgpckgaaWorkShort
import Derived.Maps.AppendAt
import Derived.Lib.SliceRun
import Derived.Deep.AppendLies
namespace Go.Proofs.Ytfjoakhcgpckgaa
open Go.ChangeShapes Go.WideShapes Go.ChangeAt Go.RowKit
set_option linter.unusedVariables false
open Wk St
theorem rowG_own {w : World} {H cap m g : Nat} {f : Nat → Int} (h : w.ownsRow H 2 1 (.slice (some ⟨g, 0, none⟩) m cap) m (rowV m f)) : RowG w g m f := RowG.own h
set_option maxRecDepth 20000 in
set_option maxHeartbeats 1600000 in
theorem clone_nil (w : World) : Calls Try.prog 187 #[.slice none 0 0] w fun e w' => e = .returned (.slice none 0 0) ∧ w' = w := by
  have hE := Lib.run_eql_slice_nil (P := Try.prog) w 36 2 none 0 0 0 0 Try.underlying36
  go_enter Try.func187, Try.ntmps187
  go_wp2_with fail
  go_ret
  exact ⟨rfl, rfl⟩
set_option maxRecDepth 20000 in
set_option maxHeartbeats 1600000 in
theorem clone_some (m g cap : Nat) (f : Nat → Int) (w : World) (hm : 0 < m) (hm2 : m ≤ 200) (hR : RowG w g m f) : Calls Try.prog 187 #[.slice (some ⟨g, 0, none⟩) m cap] w fun e w' => ∃ v, e = .returned v ∧ w'.ownsRow w.heap.size 2 1 v m (rowV m f) ∧ Below w.heap.size w w' := by
  obtain ⟨i0, hi, hz0, hz1, hz2⟩ := info_parts infoI64s
  have HR := Lib.hid hR
  have hgw := hR.lt
  have hE := Lib.run_eql_slice_nil (P := Try.prog) w 36 2 (some ⟨g, 0, none⟩) m cap 0 0 Try.underlying36
  clear hR
  go_enter Try.func187, Try.ntmps187
  have HW1 := Lib.hid (show Below w.heap.size w (w.alloc (.cells #[] 2)) from (Below.refl _ _).alloc (Nat.le_refl _) _)
  have HNW := Lib.hid ((HR.out.below HW1.out hgw).news)
  have HMD := Lib.hid (World.ownsRow_made (e := 2) (size := 1) w #[] 0 (Nat.le_refl w.heap.size) (Nat.zero_le _) rfl)
  go_wp2_with (at_builtin; refine wpList_append_own_at _ (by rfl) _ _ 36 (by rfl) w.heap.size 2 i0 (.int .i64 0) 1 8 Try.underlying36 hi hz0 hz1 hz2 (by rfl) (by decide) (.slice (some ⟨w.heap.size, 0, none⟩) 0 0) 0 [] (by rfl) HMD.out ⟨g, 0, none⟩ m cap (rowV m f) (by rfl) (by rw [rowV_length, Nat.mul_one]) HNW.out (rowV_one m f) (by unfold maxLen; omega) (by omega) (by simp) ?_; intro v' w1 hown1 hgrow1 _ _; simp only [Nat.zero_add, List.nil_append] at hown1; have HB1 := Lib.hid (show Below w.heap.size w w1 from HW1.out.grown hgrow1 HW1.out.size (fun k hk => by simp [Value.ownBlock] at hk; omega)); have HO := Lib.hid hown1; clear hown1 hgrow1)
  go_ret
  exact ⟨_, rfl, HO.out, HB1.out⟩
theorem clone_any (H cnt : Nat) (vf : Value) (f : Nat → Int) (w : World) (hm2 : cnt ≤ 200) (hown : w.ownsRow H 2 1 vf cnt (rowV cnt f)) (h0 : cnt = 0 → vf = .slice none 0 0) : Calls Try.prog 187 #[vf] w fun e w' => ∃ v, e = .returned v ∧ w'.ownsRow w.heap.size 2 1 v cnt (rowV cnt f) ∧ Below w.heap.size w w' := by
  by_cases h : cnt = 0
  · rw [h0 h]
    refine (clone_nil w).mono ?_
    rintro e w' ⟨rfl, rfl⟩
    subst h
    exact ⟨_, rfl, World.ownsRow_nil _ _ _ _, Below.refl _ _⟩
  · obtain ⟨g, cp, rfl, _, _⟩ := hown.form (by omega)
    exact clone_some cnt g cp f w (by omega) hm2 (rowG_own hown)
/-- what comes of a world by steps that turn nothing that lay there -/
inductive Upw (w : World) : World → Prop where
  | refl : Upw w w
  | alloc {w' : World} (o : Obj) : Upw w w' → Upw w (w'.alloc o)
  | drew {w' : World} : Upw w w' → Upw w w'.drew
  | call {w' w'' : World} : Upw w w' → Below w'.heap.size w' w'' → Upw w w''
  | base {w' w'' : World} : Upw w w' → Below w.heap.size w' w'' → Upw w w''
theorem Upw.bel {w w' : World} (h : Upw w w') : Below w.heap.size w w' := by
  induction h with
  | refl => exact Below.refl _ _
  | alloc o _ ih => exact ih.alloc ih.size o
  | drew _ ih => exact ih.drew
  | call _ hb ih => exact ih.trans (hb.mono ih.size)
  | base _ hb ih => exact ih.trans hb
theorem Upw.own {w w' : World} (h : Upw w w') {H n : Nat} {v : Value} {xs : List Value} (ho : w.ownsRow H 2 1 v n xs) : w'.ownsRow H 2 1 v n xs := ownsRow_below ho h.bel
theorem keep_block {w w' : World} (hb : Below w.heap.size w w') {k : Nat} {o : Obj} (h : w.heap[k]? = some o) : w'.heap[k]? = some o := (hb.block k (Array.getElem?_eq_some_iff.1 h).1).trans h
theorem rowV_put (cnt : Nat) (f : Nat → Int) (x : Int) (h : f cnt = 0) : rowV cnt f ++ [Value.int .i64 x] = rowV (cnt + 1) (put f cnt x) := by
  unfold rowV
  rw [List.range_succ, List.map_append]
  congr 1
  · refine List.map_congr_left fun j hj => ?_
    have : j < cnt := List.mem_range.1 hj
    simp [put, show ¬ j = cnt from by omega]
  · simp [put, h]
theorem heapAt {w : World} {o : Obj} {H : Nat} (h : w.heap.size = H) : (w.alloc o).heap[H]? = some o := h ▸ heap_alloc_new w o
theorem pendAlloc {w : World} {b : Nat} {o o' : Obj} (hb : w.heap[b]? = some o) : (w.alloc o').heap[b]? = some o := by
  rw [Below.heap_alloc w o' b (Array.getElem?_eq_some_iff.1 hb).1]; exact hb
theorem stepPush {P : Program} (w : World) {ops : Array Oper} {o : Oper} {a : Act} {K : Act → World → Prop} {Q : Exit → Act → World → Prop} {E : Prop} (hgd : o.guard = none) (s x : Operand) (t : TypeId)
    (ho : o.op = .call { callee := .builtin .append, args := #[s, x], argTypes := #[t, t] })
    (base : Nat) (e : TypeId) (z : Value) (bytes : Nat) (ht : P.underlying t = some (.slice e)) (hinfo : (P.info? e).map (fun i => (i.zero, i.size, i.bytes)) = some (some z, 1, bytes)) (hz1 : z.cells.size = 1)
    (v : Value) (n : Nat) (xs : List Value) (hs : a.eval s = v) (hown : w.ownsRow base e 1 v n xs)
    (H : Nat) (u : Value) (hx : a.eval x = .slice (some ⟨H, 0, none⟩) 1 1) (hH : w.heap[H]? = some (.cells #[u] e (0, 0))) (hu : u.oneCell' = true)
    (h63 : n + 1 ≤ maxLen) (hbytes : (n + 1) * bytes ≤ 140737488355328) (hbase : base ≤ w.heap.size)
    (h : ∀ g cap w', w'.ownsRow base e 1 (.slice (some ⟨g, 0, none⟩) (n + 1) cap) (n + 1) (xs ++ [u]) → w.grownBy w' v.ownBlock → K (a.put o.dst (.slice (some ⟨g, 0, none⟩) (n + 1) cap)) w') :
    if Region.wanted o (yielded ops a.tmps) = true then Oper.wp P o a w K Q else E := by
  obtain ⟨i, hi, hz0, hzs, hzb⟩ := info_parts hinfo
  exact step_append_lies w hgd s x t ho base e i z 1 bytes ht hi hz0 hzs hzb hz1 (by decide) v n xs hs hown ⟨H, 0, none⟩ 1 1 [u] hx rfl (World.news_of_block hH) (by simpa using hu) (by decide) h63 hbytes hbase _ rfl (fun g cap w' h1 h2 _ _ => h g cap w' h1 h2)
end Go.Proofs.Ytfjoakhcgpckgaa
