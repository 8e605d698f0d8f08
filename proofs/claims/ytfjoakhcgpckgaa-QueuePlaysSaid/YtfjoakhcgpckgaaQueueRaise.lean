/- Contracts: a thing of the queue is raised, dropped, taken: the whole queue behind it. -/
import Derived.Test.YtfjoakhcgpckgaaQueueSort
import Derived.Test.YtfjoakhcgpckgaaHeapRem
namespace Go.Proofs.Ytfjoakhcgpckgaa
open Go.ChangeShapes Go.WideShapes Go.ChangeAt Go.RowKit
set_option linter.unusedVariables false
open Hp
def rai (t : Th) (p : Int) : Th := ⟨p, t.id, t.born, t.blk⟩
theorem set_at {ts : List Th} {j k : Nat} {t x : Th} (h : (ts.set j t)[k]? = some x) : (k = j ∧ x = t) ∨ (k ≠ j ∧ ts[k]? = some x) := by
  rw [List.getElem?_set] at h
  by_cases e : j = k
  · subst e
    rw [if_pos rfl] at h
    split at h
    · exact .inl ⟨rfl, (Option.some.inj h).symm⟩
    · cases h
  · rw [if_neg e] at h
    exact .inr ⟨fun e2 => e e2.symm, h⟩
theorem ptrs_set {ts : List Th} {j : Nat} {t : Th} (hj : ts[j]? = some t) (p : Int) : ptrs (ts.set j (rai t p)) = ptrs ts := by
  apply List.ext_getElem?
  intro k
  unfold ptrs
  rw [List.getElem?_map, List.getElem?_map, List.getElem?_set]
  by_cases e : j = k
  · subst e
    rw [if_pos rfl, if_pos (List.getElem?_eq_some_iff.1 hj).1, hj]
    rfl
  · rw [if_neg e]
theorem HW.raised {F : Nat → Prop} {gq gm : Nat} {born : Int} {v : Value} {ts : List Th} {w : World} (h : HW F gq gm born v ts w) {j : Nat} {t : Th} (hj : ts[j]? = some t) (p : Int) : HW F gq gm born v (ts.set j (rai t p)) (w.setCell ⟨t.blk, 0, none⟩ (.int .i64 p)) := by
  have ht := (h.th j t hj).2
  refine ⟨h.var.setOther (row_ne h.var ht (by decide)) _, h.fq, ?_, h.rowF, fun k x hk => ?_, fun i k a b ha hb he => ?_⟩
  · rw [List.length_set, ptrs_set hj]
    exact own_setOther h.row (own_ne h.row ht (by decide)) _
  · rcases set_at hk with ⟨rfl, rfl⟩ | ⟨e, hk2⟩
    · exact ⟨(h.th k t hj).1, (ht.set 0 _).congr fun i hi => by
        unfold thF rai
        have : i = 0 ∨ i = 1 ∨ i = 2 ∨ i = 3 := by omega
        rcases this with rfl | rfl | rfl | rfl <;> rfl⟩
    · exact ⟨(h.th k x hk2).1, (h.th k x hk2).2.setOther (a := ⟨t.blk, 0, none⟩) (fun e2 => e (h.inj k j x t hk2 hj e2)) _⟩
  · rcases set_at ha with ⟨rfl, rfl⟩ | ⟨e1, ha2⟩ <;> rcases set_at hb with ⟨e2, rfl⟩ | ⟨e2, hb2⟩
    · exact e2.symm
    · exact h.inj i k t b hj hb2 he
    · subst e2; exact h.inj i k a t ha2 hj he
    · exact h.inj i k a b ha2 hb2 he
theorem raised_but {ts : List Th} {j : Nat} {t : Th} (h : Heap ts ts.length) (hj : ts[j]? = some t) (t' : Th) : ButH (ts.set j t') (ts.set j t').length j := by
  rw [List.length_set]
  refine ⟨fun k a b h0 hk hne hp ha hb => ?_, fun k a b h0 hk hp hj0 ha hb => ?_⟩
  · rcases set_at ha with ⟨e, _⟩ | ⟨_, ha2⟩
    · exact (hne e).elim
    · rcases set_at hb with ⟨e, _⟩ | ⟨_, hb2⟩
      · exact (hp e).elim
      · exact h k a b h0 hk ha2 hb2
  · have hjl := (List.getElem?_eq_some_iff.1 hj).1
    have h1 := par_lt h0
    have h2 := par_lt hj0
    rcases set_at ha with ⟨e, _⟩ | ⟨_, ha2⟩
    · omega
    · rcases set_at hb with ⟨e, _⟩ | ⟨_, hb2⟩
      · omega
      · have h3 := h k a t h0 hk ha2 (by rw [hp]; exact hj)
        have h4 := h j t b hj0 hjl hj hb2
        exact le_trans h4 h3
theorem set_mem {ts : List Th} {j : Nat} {t : Th} (hj : ts[j]? = some t) (p : Int) (id : Int) (b : Nat) : (∃ x, x ∈ ts.set j (rai t p) ∧ x.id = id ∧ x.blk = b) ↔ ∃ x, x ∈ ts ∧ x.id = id ∧ x.blk = b := by
  have hjl := (List.getElem?_eq_some_iff.1 hj).1
  constructor
  · rintro ⟨x, hx, h1, h2⟩
    obtain ⟨k, hk⟩ := List.getElem?_of_mem hx
    rcases set_at hk with ⟨rfl, rfl⟩ | ⟨_, hk2⟩
    · exact ⟨t, List.mem_of_getElem? hj, h1, h2⟩
    · exact ⟨x, List.mem_of_getElem? hk2, h1, h2⟩
  · rintro ⟨x, hx, h1, h2⟩
    obtain ⟨k, hk⟩ := List.getElem?_of_mem hx
    by_cases e : k = j
    · subst e
      rw [hj] at hk
      cases hk
      exact ⟨rai t p, List.mem_of_getElem? (i := k) (by rw [List.getElem?_set, if_pos rfl, if_pos hjl]), h1, h2⟩
    · exact ⟨x, List.mem_of_getElem? (i := k) (by rw [List.getElem?_set, if_neg (fun e2 => e e2.symm)]; exact hk), h1, h2⟩
theorem set_borns {ts : List Th} {j : Nat} {t : Th} (hj : ts[j]? = some t) (p : Int) : (ts.set j (rai t p)).map Th.born = ts.map Th.born := by
  apply List.ext_getElem?
  intro k
  rw [List.getElem?_map, List.getElem?_map, List.getElem?_set]
  by_cases e : j = k
  · subst e
    rw [if_pos rfl, if_pos (List.getElem?_eq_some_iff.1 hj).1, hj]
    rfl
  · rw [if_neg e]
/-- which one has a number -/
theorem QW.at {F : Nat → Prop} {gq gm : Nat} {born : Int} {M : Int → Option Nat} {q : Nat} {v : Value} {ts : List Th} {w : World} (h : QW F gq gm born M q v ts w) {id : Int} {b : Nat} (hb : M id = some b) : ∃ (j : Nat) (t : Th), ts[j]? = some t ∧ t.id = id ∧ t.blk = b := by
  obtain ⟨t, h1, h2, h3⟩ := (h.ids id b).1 hb
  obtain ⟨j, hj⟩ := List.getElem?_of_mem h1
  exact ⟨j, t, hj, h2, h3⟩
theorem QW.map_at {F : Nat → Prop} {gq gm : Nat} {born : Int} {M : Int → Option Nat} {q : Nat} {v : Value} {ts : List Th} {w : World} (h : QW F gq gm born M q v ts w) {j : Nat} {t : Th} (hj : ts[j]? = some t) : M t.id = some t.blk := (h.ids _ _).2 ⟨t, List.mem_of_getElem? hj, rfl, rfl⟩
theorem QW.removed {F : Nat → Prop} {gq gm : Nat} {born : Int} {M : Int → Option Nat} {q : Nat} {v v' : Value} {ts us : List Th} {a : Th} {w w' : World} (h : QW F gq gm born M q v ts w) (hp : (us ++ [a]).Perm ts) (hh : Heap us us.length) (hw : HW F gq gm born v' us w') (hm : MapW gm (setM M a.id none) q w') : QW F gq gm born (setM M a.id none) q v' us w' := by
  have hnd : ((us ++ [a]).map Th.born).Nodup := (hp.map Th.born).nodup_iff.2 h.dif
  rw [List.map_append, List.nodup_append] at hnd
  obtain ⟨n1, _, n2⟩ := hnd
  have hmem : ∀ x, x ∈ us → x ∈ ts := fun x hx => hp.mem_iff.1 (List.mem_append_left _ hx)
  have ha : a ∈ ts := hp.mem_iff.1 (by simp)
  have hne : ∀ x, x ∈ us → x.id ≠ a.id := fun x hx e => by
    have h1 := (h.ids x.id x.blk).2 ⟨x, hmem x hx, rfl, rfl⟩
    have h2 := (h.ids a.id a.blk).2 ⟨a, ha, rfl, rfl⟩
    rw [e, h2] at h1
    obtain ⟨i, hi⟩ := List.getElem?_of_mem (hmem x hx)
    obtain ⟨k, hk⟩ := List.getElem?_of_mem ha
    have h3 := h.hw.inj i k x a hi hk (Option.some.inj h1).symm
    subst h3
    have hxa : x = a := by rw [hi] at hk; exact Option.some.inj hk
    exact n2 x.born (List.mem_map.2 ⟨x, hx, rfl⟩) x.born (by simp [hxa]) rfl
  refine ⟨hw, hm, h.fm, hh, fun id b => ?_, fun x hx => h.old x (hmem x hx), n1⟩
  unfold setM
  by_cases e : id = a.id
  · rw [if_pos e]
    constructor
    · intro h1; cases h1
    · rintro ⟨x, hx, h1, _⟩
      exact (hne x hx (h1.trans e)).elim
  · rw [if_neg e]
    constructor
    · intro h1
      obtain ⟨x, hx, h2, h3⟩ := (h.ids id b).1 h1
      rcases List.mem_append.1 (hp.mem_iff.2 hx) with h4 | h4
      · exact ⟨x, h4, h2, h3⟩
      · rw [List.mem_singleton] at h4
        subst h4
        exact (e h2.symm).elim
    · rintro ⟨x, hx, h1, h2⟩
      exact (h.ids id b).2 ⟨x, hmem x hx, h1, h2⟩
set_option maxRecDepth 20000 in
set_option maxHeartbeats 1600000 in
theorem Raise_none (F : Nat → Prop) (gq gm : Nat) (born : Int) (M : Int → Option Nat) (q : Nat) (v : Value) (ts : List Th) (w : World) (prio id : Int) (h : QW F gq gm born M q v ts w) (hid : (Lit.int .i64 id).wf = true) (hb : M id = none) :
    Calls Try.prog 25 #[.pointer (some ⟨gq, 0, none⟩), .int .i64 id, .int .i64 prio] w fun e w' => e = .returned (.int .i64 5) ∧ w' = w := by
  have c1 : w.cell? ⟨gq, 1, none⟩ = some (.map (some gm)) := h.hw.var.cell (i := 1) (by omega)
  have lq := h.hw.var.lt
  have hl := h.map.look hid
  rw [hb] at hl
  unfold ptrOf at hl
  clear h hb
  go_enter Try.func25, Try.ntmps25
  go_wp2_with fail
  go_ret
  exact ⟨rfl, rfl⟩
set_option maxRecDepth 20000 in
set_option maxHeartbeats 1600000 in
theorem Raise_arg (F : Nat → Prop) (gq gm : Nat) (born : Int) (M : Int → Option Nat) (q : Nat) (v : Value) (ts : List Th) (w : World) (prio : Int) (j : Nat) (t : Th) (h : QW F gq gm born M q v ts w) (hid : (Lit.int .i64 t.id).wf = true) (hj : ts[j]? = some t) (hp : prio < t.prio) :
    Calls Try.prog 25 #[.pointer (some ⟨gq, 0, none⟩), .int .i64 t.id, .int .i64 prio] w fun e w' => e = .returned (.int .i64 1) ∧ w' = w := by
  have c1 : w.cell? ⟨gq, 1, none⟩ = some (.map (some gm)) := h.hw.var.cell (i := 1) (by omega)
  have lq := h.hw.var.lt
  have hl := h.map.look hid
  rw [h.map_at hj] at hl
  unfold ptrOf at hl
  have ht := (h.hw.th j t hj).2
  have t0 : w.cell? ⟨t.blk, 0, none⟩ = some (.int .i64 t.prio) := ht.cell (i := 0) (by omega)
  have lt := ht.lt
  clear h ht hj
  go_enter Try.func25, Try.ntmps25
  go_wp2_with fail
  go_ret
  exact ⟨rfl, rfl⟩
set_option maxRecDepth 20000 in
set_option maxHeartbeats 1600000 in
theorem Raise_good (F : Nat → Prop) (gq gm : Nat) (born : Int) (M : Int → Option Nat) (q : Nat) (v : Value) (ts : List Th) (w : World) (prio : Int) (j : Nat) (t : Th) (h : QW F gq gm born M q v ts w) (hid : (Lit.int .i64 t.id).wf = true) (hj : ts[j]? = some t) (hp : ¬ prio < t.prio) (h4 : ts.length ≤ 900) :
    Calls Try.prog 25 #[.pointer (some ⟨gq, 0, none⟩), .int .i64 t.id, .int .i64 prio] w fun e w' => e = .returned (.int .i64 0) ∧ ∃ us, us.Perm (ts.set j (rai t prio)) ∧ QW F gq gm born M q v us w' ∧ Kept F w w' := by
  have c1 : w.cell? ⟨gq, 1, none⟩ = some (.map (some gm)) := h.hw.var.cell (i := 1) (by omega)
  have lq := h.hw.var.lt
  have hl := h.map.look hid
  rw [h.map_at hj] at hl
  unfold ptrOf at hl
  have ht := (h.hw.th j t hj).2
  have t0 : w.cell? ⟨t.blk, 0, none⟩ = some (.int .i64 t.prio) := ht.cell (i := 0) (by omega)
  have t9 := ht.frozen 0
  have lt := ht.lt
  have hjl := (List.getElem?_eq_some_iff.1 hj).1
  obtain ⟨W1, hW1⟩ : ∃ W, W = w.setCell ⟨t.blk, 0, none⟩ (.int .i64 prio) := ⟨_, rfl⟩
  have hw1 : HW F gq gm born v (ts.set j (rai t prio)) W1 := by rw [hW1]; exact h.hw.raised hj prio
  have hm1 : MapW gm M q W1 := by rw [hW1]; exact h.map.block (Below.heap_setCell w _ _ gm (fun e => map_ne h.map ht e.symm))
  have HK1 := Lib.hid (show Kept F w W1 from by rw [hW1]; exact (Kept.refl F w).setCell (p := ⟨t.blk, 0, none⟩) (.inl (h.hw.th j t hj).1) _)
  have HWN := Lib.hid (hw1.without hm1)
  have HM1 := Lib.hid hm1
  have hj1 : (ts.set j (rai t prio))[j]? = some (rai t prio) := by rw [List.getElem?_set, if_pos rfl, if_pos hjl]
  have d3 : W1.cell? ⟨t.blk, 3, none⟩ = some (.int .i64 (j : Int)) := (hw1.th j _ hj1).2.cell (i := 3) (by omega)
  have l3 : t.blk < W1.heap.size := (hw1.th j _ hj1).2.lt
  have lq1 : gq < W1.heap.size := hw1.var.lt
  have HBU := Lib.hid (raised_but h.heap hj (rai t prio))
  have HSL : Hid (j < (ts.set j (rai t prio)).length ∧ (ts.set j (rai t prio)).length ≤ 900) := Lib.hid (by rw [List.length_set]; exact ⟨hjl, h4⟩)
  have HQ := Lib.hid h
  have HJ := Lib.hid hj
  clear h hj ht h4 hjl hw1 hm1 hj1
  go_enter Try.func25, Try.ntmps25
  go_upto_region 7 with fail
  rw [← hW1]
  clear c1 hl t0 t9 hW1
  go_still_tail 8, (by kernel_rfl)
  change wpList _ _ _ _ _ W1.drew
  go_wp2_with (go_at_call 112; refine Calls.mono (hFix_any (fun k => F k ∧ k ≠ gm) gq gm born v (ts.set j (rai t prio)) j _ (HWN.out.below (Below.refl _ _).drew) HBU.out HSL.out.1 HSL.out.2) ?_; rintro e w2 ⟨rfl, us, hp2, hh2, hw2, hk2⟩; have HP2 := Lib.hid hp2; have HH2 := Lib.hid hh2; have HW2 := Lib.hid hw2; have HK2 := Lib.hid hk2; clear hp2 hh2 hw2 hk2)
  go_ret
  refine ⟨rfl, us, HP2.out, ⟨HW2.out.wide (fun k hk => hk.1), (HM1.out.below (Below.refl _ _).drew).kept HK2.out (fun hf => hf.2 rfl), HQ.out.fm, HH2.out, fun id b => ?_, fun x hx => ?_, ?_⟩, (HK1.out.drew).trans HK2.out (fun x hx => .inl hx.1)⟩
  · rw [HQ.out.ids id b, ← set_mem HJ.out prio id b]
    constructor
    · rintro ⟨x, h1, h2⟩
      exact ⟨x, HP2.out.mem_iff.2 h1, h2⟩
    · rintro ⟨x, h1, h2⟩
      exact ⟨x, HP2.out.mem_iff.1 h1, h2⟩
  · have h1 : x.born ∈ (ts.set j (rai t prio)).map Th.born := List.mem_map.2 ⟨x, HP2.out.mem_iff.1 hx, rfl⟩
    rw [set_borns HJ.out] at h1
    obtain ⟨y, hy, h2⟩ := List.mem_map.1 h1
    rw [← h2]
    exact HQ.out.old y hy
  · have h1 := HP2.out.map Th.born
    rw [set_borns HJ.out] at h1
    exact h1.nodup_iff.2 HQ.out.dif
/-- container/heap.Remove, wherever the thing lies -/
theorem hRem_any (F : Nat → Prop) (gq gm : Nat) (born : Int) (v : Value) (ts : List Th) (i : Nat) (a : Th) (w : World) (h : HW F gq gm born v ts w) (hh : Heap ts ts.length) (ha : ts[i]? = some a) (h4 : ts.length ≤ 900) :
    Calls Try.prog 111 #[hp gq, .int .i64 i] w fun e w' => e = .returned (.iface 177 (ptr1 a)) ∧ ∃ v' us j, RemEnd ts a us ∧ HW F gq gm born v' us w' ∧ w'.rowIs a.blk 179 4 (thF a j) ∧ Kept F w w' := by
  have hi := (List.getElem?_eq_some_iff.1 ha).1
  obtain ⟨n, hn⟩ : ∃ n, ts.length = n + 1 := ⟨ts.length - 1, by omega⟩
  by_cases e : i = n
  · subst e
    exact hRem_last F gq gm born v ts i a w h hh hn ha h4
  · exact hRem_mid F gq gm born v ts n i a w h hh hn (by omega) ha h4
set_option maxRecDepth 20000 in
set_option maxHeartbeats 1600000 in
theorem Drop_none (F : Nat → Prop) (gq gm : Nat) (born : Int) (M : Int → Option Nat) (q : Nat) (v : Value) (ts : List Th) (w : World) (id : Int) (h : QW F gq gm born M q v ts w) (hid : (Lit.int .i64 id).wf = true) (hb : M id = none) :
    Calls Try.prog 23 #[.pointer (some ⟨gq, 0, none⟩), .int .i64 id] w fun e w' => e = .returned (.int .i64 5) ∧ w' = w := by
  have c1 : w.cell? ⟨gq, 1, none⟩ = some (.map (some gm)) := h.hw.var.cell (i := 1) (by omega)
  have lq := h.hw.var.lt
  have hl := h.map.look hid
  rw [hb] at hl
  unfold ptrOf at hl
  clear h hb
  go_enter Try.func23, Try.ntmps23
  go_wp2_with fail
  go_ret
  exact ⟨rfl, rfl⟩
set_option maxRecDepth 20000 in
set_option maxHeartbeats 1600000 in
theorem Drop_good (F : Nat → Prop) (gq gm : Nat) (born : Int) (M : Int → Option Nat) (q : Nat) (v : Value) (ts : List Th) (w : World) (j : Nat) (t : Th) (h : QW F gq gm born M q v ts w) (hid : (Lit.int .i64 t.id).wf = true) (hj : ts[j]? = some t) (h4 : ts.length ≤ 900) :
    Calls Try.prog 23 #[.pointer (some ⟨gq, 0, none⟩), .int .i64 t.id] w fun e w' => e = .returned (.int .i64 0) ∧ ∃ v' us, (us ++ [t]).Perm ts ∧ QW F gq gm born (setM M t.id none) q v' us w' ∧ Kept F w w' := by
  have c1 : w.cell? ⟨gq, 1, none⟩ = some (.map (some gm)) := h.hw.var.cell (i := 1) (by omega)
  have lq := h.hw.var.lt
  have hl := h.map.look hid
  rw [h.map_at hj] at hl
  unfold ptrOf at hl
  have d3 : w.cell? ⟨t.blk, 3, none⟩ = some (.int .i64 (j : Int)) := (h.hw.th j _ hj).2.cell (i := 3) (by omega)
  have l3 : t.blk < w.heap.size := (h.hw.th j _ hj).2.lt
  have HQ := Lib.hid h
  have HWN := Lib.hid (h.hw.without h.map)
  have HJ := Lib.hid hj
  have H4 := Lib.hid h4
  clear h hj h4
  go_enter Try.func23, Try.ntmps23
  go_upto_region 4 with fail
  go_still_tail 8, (by kernel_rfl)
  change wpList _ _ _ _ _ w.drew
  go_wp2_with (first
    | (go_at_call 111; refine Calls.mono (hRem_any (fun k => F k ∧ k ≠ gm) gq gm born v ts j t _ (HWN.out.below (Below.refl _ _).drew) HQ.out.heap HJ.out H4.out) ?_; rintro e w2 ⟨rfl, v', us, jj, hR, hw2, hr2, hk2⟩; have HR := Lib.hid hR; have HW2 := Lib.hid hw2; have HK2 := Lib.hid hk2; have HM2 := Lib.hid ((HQ.out.map.below (Below.refl _ _).drew).kept hk2 (fun hf => hf.2 rfl)); have e1 : w2.cell? ⟨gq, 1, none⟩ = some (.map (some gm)) := hw2.var.cell (i := 1) (by omega); have e2 := hw2.var.lt; clear hR hw2 hr2 hk2 c1 hl d3)
    | (at_delete; refine wpList_mapDel _ (by rfl) _ _ (by rfl) gm q M t.id (by rfl) HM2.out hid (by rfl) ?_; intro w3 hm3 ht3; have HM3 := Lib.hid hm3; have hg3 := ht3.grown; have HW3 := Lib.hid (HW2.out.mapped HM2.out hg3); have HK3 := Lib.hid ((((Kept.refl F w).drew).trans HK2.out (fun x hx => .inl hx.1)).grown hg3 (fun k hk => .inl (by cases hk; exact HQ.out.fm))); clear hm3 hg3 ht3))
  go_ret
  exact ⟨rfl, v', us, HR.out.1, HQ.out.removed HR.out.1 HR.out.2 (HW3.out.wide (fun k hk => hk.1)) HM3.out, HK3.out⟩
theorem Take_good (F : Nat → Prop) (gq gm : Nat) (born : Int) (M : Int → Option Nat) (q : Nat) (v : Value) (ts : List Th) (a : Th) (w : World) (h : QW F gq gm born M q v ts w) (ha : ts[0]? = some a) (h4 : ts.length ≤ 900) (hid : (Lit.int .i64 a.id).wf = true) :
    Calls Try.prog 27 #[.pointer (some ⟨gq, 0, none⟩)] w fun e w' => e = .returned (.tuple #[.agg #[.int .i64 a.prio, .int .i64 a.id], .bool true]) ∧ ∃ v' us, (us ++ [a]).Perm ts ∧ QW F gq gm born (setM M a.id none) q v' us w' ∧ Kept F w w' := by
  refine Calls.mono (Take_some F gq gm born M q v ts a w h.hw h.map h.fm h.heap ha h4 hid) ?_
  rintro e w' ⟨he, v', us, h1, h2, h3, h4, h5⟩
  exact ⟨he, v', us, h1, h.removed h1 h2 h3 h4, h5⟩
end Go.Proofs.Ytfjoakhcgpckgaa
