/- Contracts: the document's queue: Raise, Drop. -/
import Derived.Test.YtfjoakhcgpckgaaQueueRaise
import Derived.Test.YtfjoakhcgpckgaaSpanFull
import Derived.Maps.AppendAt
import Derived.Deep.RegionLaw
namespace Go.Proofs.Ytfjoakhcgpckgaa
open Go.ChangeShapes Go.WideShapes Go.ChangeAt Go.RowKit
set_option linter.unusedVariables false
open Hp
theorem at_minus {qs : List Th} {id : Int} (hn : ∀ t, t ∈ qs → t.id ≠ id) {z : Int} (hz : AtEnd qs id z) : z = -1 := by
  rcases hz with ⟨i, t, h1, h2, _⟩ | ⟨rfl, _⟩
  · exact (hn t (List.mem_of_getElem? h1) h2).elim
  · rfl
theorem nodup_idx {l : List Int} (hn : l.Nodup) {i j : Nat} {x : Int} (hi : l[i]? = some x) (hj : l[j]? = some x) : i = j := by
  obtain ⟨h1, e1⟩ := List.getElem?_eq_some_iff.1 hi
  obtain ⟨h2, e2⟩ := List.getElem?_eq_some_iff.1 hj
  have hp := List.pairwise_iff_getElem.1 hn
  rcases Nat.lt_trichotomy i j with h | h | h
  · exact (hp i j h1 h2 h (by rw [e1, e2])).elim
  · exact h
  · exact (hp j i h2 h1 h (by rw [e1, e2])).elim
theorem at_there {qs : List Th} {i : Nat} {t : Th} (hi : qs[i]? = some t) (hn : (qs.map Th.id).Nodup) {z : Int} (hz : AtEnd qs t.id z) : z = (i : Int) := by
  rcases hz with ⟨k, u, h1, h2, h3⟩ | ⟨_, h2⟩
  · obtain ⟨hk, hku⟩ := List.getElem?_eq_some_iff.1 h1
    obtain ⟨hil, hit⟩ := List.getElem?_eq_some_iff.1 hi
    have : k = i := nodup_idx hn (by rw [List.getElem?_map, h1, Option.map_some, h2]) (by rw [List.getElem?_map, hi, Option.map_some])
    rw [h3, this]
  · exact (h2 t (List.mem_of_getElem? hi) rfl).elim
theorem items_set {qs : List Th} {i : Nat} {t : Th} (hi : qs[i]? = some t) (p : Int) : items (qs.set i (rai t p)) = (items qs).set (i * 2) (.int .i64 p) := by
  apply List.ext_getElem?
  intro k
  by_cases hk : k < qs.length * 2
  · have hkl : k / 2 < qs.length := by omega
    obtain ⟨u, hu⟩ : ∃ u, qs[k / 2]? = some u := ⟨_, List.getElem?_eq_getElem hkl⟩
    obtain ⟨u1, u2⟩ := items_at hu
    have hil := (List.getElem?_eq_some_iff.1 hi).1
    rw [List.getElem?_set]
    by_cases e : k / 2 = i
    · subst e
      rw [hi] at hu
      cases hu
      have hs : (qs.set (k / 2) (rai t p))[k / 2]? = some (rai t p) := by rw [List.getElem?_set, if_pos rfl, if_pos hil]
      obtain ⟨s1, s2⟩ := items_at hs
      by_cases e2 : k / 2 * 2 = k
      · rw [if_pos e2, if_pos (by rw [items_length]; omega)]
        rw [e2] at s1
        exact s1
      · rw [if_neg e2]
        have e3 : k / 2 * 2 + 1 = k := by omega
        rw [e3] at s2 u2
        rw [s2, u2]
        rfl
    · have hs : (qs.set i (rai t p))[k / 2]? = some u := by rw [List.getElem?_set, if_neg (fun e2 => e e2.symm)]; exact hu
      obtain ⟨s1, s2⟩ := items_at hs
      rw [if_neg (by omega)]
      by_cases e2 : k / 2 * 2 = k
      · rw [e2] at s1 u1
        rw [s1, u1]
      · have e3 : k / 2 * 2 + 1 = k := by omega
        rw [e3] at s2 u2
        rw [s2, u2]
  · rw [List.getElem?_eq_none (by rw [items_length, List.length_set]; omega), List.getElem?_eq_none (by rw [List.length_set, items_length]; omega)]
theorem own_block {w w' : World} {base n size : Nat} {e : TypeId} {v : Value} {xs : List Value} (h : w.ownsRow base e size v n xs) (hn : ∀ k, v.ownBlock = some k → w'.heap[k]? = w.heap[k]?) : w'.ownsRow base e size v n xs := by
  refine ⟨h.1, ?_⟩
  rcases h.2 with h2 | ⟨g, cap, cur, rfl, hbg, hgg, rest⟩
  · exact .inl h2
  · exact .inr ⟨g, cap, cur, rfl, hbg, by rw [hn g rfl]; exact hgg, rest⟩
theorem row_ne_own {w : World} {base n m size g cap : Nat} {t e : TypeId} {c : Nat} {f : Nat → Value} {xs : List Value} (hc : w.rowIs c t m f) (h : w.ownsRow base e size (.slice (some ⟨g, 0, none⟩) n cap) n xs) (ht : t ≠ e) : c ≠ g := fun hk => by
  subst hk
  exact span_ne (spanRow.own h) hc ht rfl
theorem items_one (qs : List Th) : ∀ u ∈ items qs, u.oneCell' = true := fun u hu => by
  unfold items at hu
  obtain ⟨t, _, h⟩ := List.mem_flatMap.1 hu
  simp at h
  rcases h with rfl | rfl <;> rfl
theorem RQ.stored {G : Nat → Prop} {gr : Nat} {bd : Addr} {n cap B : Nat} {qs qs' : List Th} {w2 w3 : World} {sp : Addr} {m cap3 : Nat} {xs : List Value} (h : RQ G gr (.slice (some bd) n cap) qs w2) (hb : Below w2.heap.size w2 w3) (hs : spanRow w3 0 30 2 (.slice (some sp) m cap3) m xs) (hg : sp.block = bd.block ∨ w2.heap.size ≤ sp.block) (hx : items qs' = xs) (hm : qs'.length = m) (hB : B ≤ w2.heap.size) :
    RQ (fun k => G k ∨ B ≤ k) gr (.slice (some sp) m cap3) qs' (w3.setCell ⟨gr, 0, none⟩ (.slice (some sp) m cap3)) ∧ Kept G w2 (w3.setCell ⟨gr, 0, none⟩ (.slice (some sp) m cap3)) := by
  have hv := (h.below hb).var
  have hne := span_ne hs hv (by decide)
  refine ⟨⟨(hv.set 0 _).congr fun i hi => (by rw [if_pos (by omega)]), .inl h.fr, ?_, fun k hk => ?_⟩, (Kept.below (F := G) hb).setCell (p := ⟨gr, 0, none⟩) (.inl h.fr) _⟩
  · rw [hm, hx]
    exact hs.block fun k hk => Below.heap_setCell w3 _ _ k (fun e => hne (by rw [hk, e]))
  · obtain rfl : sp.block = k := by simpa [Value.ownBlock] using hk
    rcases hg with e | e
    · exact .inl (h.rowF _ (by rw [e]; rfl))
    · exact .inr (by omega)
set_option maxRecDepth 20000 in
set_option maxHeartbeats 1600000 in
theorem rRaise_none (G : Nat → Prop) (gr : Nat) (v : Value) (qs : List Th) (w : World) (prio id : Int) (h : RQ G gr v qs w) (hl : qs.length ≤ 200) (hn : ∀ t, t ∈ qs → t.id ≠ id) :
    Calls Try.prog 26 #[.pointer (some ⟨gr, 0, none⟩), .int .i64 id, .int .i64 prio] w fun e w' => e = .returned (.int .i64 5) ∧ Below w.heap.size w w' := by
  obtain ⟨a, cap, rfl, hW⟩ := h.row.waits
  have c0 : w.cell? ⟨gr, 0, none⟩ = some (.slice a qs.length cap) := h.var.cell (i := 0) (by omega)
  have lr := h.var.lt
  have HC := Lib.hid c0
  have HW := Lib.hid hW
  have HE := Lib.hid hn
  obtain ⟨n, hn⟩ : ∃ n, qs.length = n := ⟨_, rfl⟩
  have HN := Lib.hid hn
  rw [hn] at HC hl
  clear h hW c0 hn
  go_enter Try.func26, Try.ntmps26
  go_wp2_with (go_at_call 103; refine Calls.mono (rAt_any gr qs id a n cap _ HC.out lr HN.out.symm (by omega) HW.out) ?_; rintro e w2 ⟨z, rfl, hz, hb⟩; have HB := Lib.hid hb; obtain rfl := at_minus HE.out hz; clear hz hb)
  go_ret
  exact ⟨rfl, HB.out⟩
set_option maxRecDepth 20000 in
set_option maxHeartbeats 1600000 in
theorem rRaise_arg (G : Nat → Prop) (gr : Nat) (v : Value) (qs : List Th) (w : World) (prio : Int) (i : Nat) (t : Th) (h : RQ G gr v qs w) (hl : qs.length ≤ 200) (hi : qs[i]? = some t) (hn : (qs.map Th.id).Nodup) (hp : prio < t.prio) :
    Calls Try.prog 26 #[.pointer (some ⟨gr, 0, none⟩), .int .i64 t.id, .int .i64 prio] w fun e w' => e = .returned (.int .i64 1) ∧ Below w.heap.size w w' := by
  obtain ⟨a, cap, rfl, hW⟩ := h.row.waits
  have c0 : w.cell? ⟨gr, 0, none⟩ = some (.slice a qs.length cap) := h.var.cell (i := 0) (by omega)
  have lr := h.var.lt
  have HC := Lib.hid c0
  have HW := Lib.hid hW
  have HE := Lib.hid hn
  have HI := Lib.hid hi
  have hil := (List.getElem?_eq_some_iff.1 hi).1
  obtain ⟨n, hn⟩ : ∃ n, qs.length = n := ⟨_, rfl⟩
  have HN := Lib.hid hn
  rw [hn] at HC hl hil
  have hi0 : ¬ ((i : Int) < 0) := by omega
  have hi1 : (0 : Int) ≤ (i : Int) := by omega
  have hi2 : (i : Int) < (n : Int) := by omega
  clear h hW c0 hn hi
  go_enter Try.func26, Try.ntmps26
  go_wp2_with (go_at_call 103; refine Calls.mono (rAt_any gr qs t.id a n cap _ HC.out lr HN.out.symm (by omega) HW.out) ?_; rintro e w2 ⟨z, rfl, hz, hb⟩; have HB := Lib.hid hb; obtain rfl := at_there HI.out HE.out hz; have d0 : w2.cell? ⟨gr, 0, none⟩ = some (.slice a n cap) := (hb.cell (p := ⟨gr, 0, none⟩) lr).trans HC.out; have d1 := Nat.lt_of_lt_of_le lr hb.size; obtain ⟨b, off, rfl, hlt, q0, q1⟩ := (HW.out.below hb (Nat.le_refl _)).cells HI.out; clear hz hb)
  go_ret
  exact ⟨rfl, HB.out⟩
set_option maxRecDepth 20000 in
set_option maxHeartbeats 1600000 in
theorem rRaise_good (G : Nat → Prop) (gr : Nat) (v : Value) (qs : List Th) (w : World) (prio : Int) (i : Nat) (t : Th) (h : RQ G gr v qs w) (hl : qs.length ≤ 200) (hi : qs[i]? = some t) (hn : (qs.map Th.id).Nodup) (hp : ¬ prio < t.prio) :
    Calls Try.prog 26 #[.pointer (some ⟨gr, 0, none⟩), .int .i64 t.id, .int .i64 prio] w fun e w' => e = .returned (.int .i64 0) ∧ ∃ v', RQ (fun k => G k ∨ w.heap.size ≤ k) gr v' (qs.set i (rai t prio)) w' ∧ Kept G w w' := by
  obtain ⟨a, cap, rfl, hW⟩ := h.row.waits
  have c0 : w.cell? ⟨gr, 0, none⟩ = some (.slice a qs.length cap) := h.var.cell (i := 0) (by omega)
  have lr := h.var.lt
  have HC := Lib.hid c0
  have HW := Lib.hid hW
  have HE := Lib.hid hn
  have HI := Lib.hid hi
  have HQ := Lib.hid h
  have hil := (List.getElem?_eq_some_iff.1 hi).1
  obtain ⟨n, hn⟩ : ∃ n, qs.length = n := ⟨_, rfl⟩
  have HN := Lib.hid hn
  rw [hn] at HC hl hil
  have hi0 : ¬ ((i : Int) < 0) := by omega
  have hi1 : (0 : Int) ≤ (i : Int) := by omega
  have hi2 : (i : Int) < (n : Int) := by omega
  obtain ⟨ii, hii, hz0, hzs, hzb⟩ := info_parts infoItem
  clear h hW c0 hn hi
  go_enter Try.func26, Try.ntmps26
  go_upto_region 7 with (first
    | (go_at_call 103; refine Calls.mono (rAt_any gr qs t.id a n cap _ HC.out lr HN.out.symm (by omega) HW.out) ?_; rintro e w2 ⟨z, rfl, hz, hb⟩; have HB := Lib.hid hb; obtain rfl := at_there HI.out HE.out hz; have d0 : w2.cell? ⟨gr, 0, none⟩ = some (.slice a n cap) := (hb.cell (p := ⟨gr, 0, none⟩) lr).trans HC.out; have d1 := Nat.lt_of_lt_of_le lr hb.size; have HQ2 := Lib.hid (HQ.out.below hb); have HV2 := Lib.hid (HW.out.below hb (Nat.le_refl _)).vals; obtain ⟨b, off, rfl, hlt, q0, q1⟩ := (HW.out.below hb (Nat.le_refl _)).cells HI.out; clear hz hb)
    | (at_builtin; go_loud (refine wpList_append_own_at _ (by rfl) _ _ 22 (by rfl) w2.heap.size 30 ii (.agg #[.int .i64 0, .int .i64 0]) 2 16 Try.underlying22 hii hz0 hzs hzb rfl (by decide) (.slice none 0 0) 0 [] (by rfl) (World.ownsRow_nil _ _ _ _) ⟨b, off, none⟩ n cap (items qs) (by rfl) (by rw [items_length, HN.out]) HV2.out.add (items_one qs) (by unfold maxLen; omega) (by omega) (Nat.le_refl _) ?_; intro v3 w3 hown3 hg3 hnil3 hat3; obtain ⟨g3, cap3, rfl⟩ : ∃ g3 cap3, v3 = .slice (some ⟨g3, 0, none⟩) n cap3 := (by rcases hown3.2 with ⟨_, h0⟩ | ⟨g, c, cur, e, _⟩; omega; exact ⟨g, c, by rw [e, Nat.zero_add]⟩); have HO3 := Lib.hid hown3; have HG3 := Lib.hid hg3; have HA3 := Lib.hid hat3; have HNI := Lib.hid hnil3; have hv3 := rowIs_grown HQ2.out.var hg3 (fun e => by cases e); have HV3 := Lib.hid hv3; have v0 := hv3.cell (i := 0) (by omega); have v1 := hv3.frozen 0; have v2 := hv3.lt; clear hown3 hg3 hnil3 hat3 hv3)))
  have hgl := (HO3.out.lt g3 rfl).1
  have hgl2 := (HO3.out.lt g3 rfl).2
  obtain ⟨W4, hW4⟩ : ∃ W, W = w3.setCell ⟨gr, 0, none⟩ (.slice (some ⟨g3, 0, none⟩) n cap3) := ⟨_, rfl⟩
  rw [← hW4]
  have HV4 := Lib.hid (show W4.rowIs gr 28 1 (fun _ => .slice (some ⟨g3, 0, none⟩) n cap3) from by rw [hW4]; exact (HV3.out.set 0 _).congr fun c hc => (by rw [if_pos (by omega)]))
  have HO4 := Lib.hid (show W4.ownsRow w2.heap.size 30 2 (.slice (some ⟨g3, 0, none⟩) n cap3) n (items qs) from by
    have h := own_block (w' := W4) HO3.out (fun k hk => by
      obtain rfl : g3 = k := by simpa [Value.ownBlock] using hk
      rw [hW4]
      exact Below.heap_setCell w3 _ _ g3 (by show g3 ≠ gr; omega))
    simpa using h)
  have HK4 := Lib.hid (show Kept G w W4 from by
    rw [hW4]
    exact ((Kept.below (F := G) HB.out).grown HG3.out (fun k hk => by cases hk)).setCell (p := ⟨gr, 0, none⟩) (.inl HQ.out.fr) _)
  have hs4 : W4.heap.size = w3.heap.size := by rw [hW4]; simp
  have e0 : W4.cell? ⟨gr, 0, none⟩ = some (.slice (some ⟨g3, 0, none⟩) n cap3) := HV4.out.cell (i := 0) (by omega)
  have e1 := HV4.out.lt
  have HS4 := Lib.hid hs4
  have e2 : W4.cell? ⟨g3, i * 2, none⟩ = some (.int .i64 t.prio) := by
    have h := HO4.out.cells (g := g3) rfl (i * 2) _ (items_at HI.out).1
    rwa [show (⟨g3, 0, none⟩ : Addr).add (i * 2) = ⟨g3, i * 2, none⟩ from by unfold Addr.add; split <;> simp_all] at h
  have e3 : W4.frozen? ⟨g3, i * 2, none⟩ = false := HO4.out.frozenAt (i * 2)
  have e4 : g3 < W4.heap.size := by omega
  have HGB := Lib.hid (show w.heap.size ≤ g3 from by have := HB.out.size; omega)
  clear hW4 d0 d1 v0 v1 v2 hgl hgl2 q0 q1 hlt hs4
  go_wp2_with fail
  go_ret
  obtain ⟨o1, _⟩ := HO4.out.stored (i * 2) (.int .i64 prio)
  refine ⟨rfl, ⟨.slice (some ⟨g3, 0, none⟩) n cap3, HV4.out.setOther (a := ⟨g3, i * 2, none⟩) (row_ne_own HV4.out HO4.out (by decide)) _, .inl HQ.out.fr, ?_, fun k hk => ?_⟩, HK4.out.setCell (p := ⟨g3, i * 2, none⟩) (.inr HGB.out) _⟩
  · rw [List.length_set, HN.out, items_set HI.out]
    exact (spanRow.own o1).low (Nat.zero_le _)
  · obtain rfl : g3 = k := by simpa [Value.ownBlock] using hk
    exact .inr HGB.out
set_option maxRecDepth 20000 in
set_option maxHeartbeats 1600000 in
theorem rDrop_none (G : Nat → Prop) (gr : Nat) (v : Value) (qs : List Th) (w : World) (id : Int) (h : RQ G gr v qs w) (hl : qs.length ≤ 200) (hn : ∀ t, t ∈ qs → t.id ≠ id) :
    Calls Try.prog 24 #[.pointer (some ⟨gr, 0, none⟩), .int .i64 id] w fun e w' => e = .returned (.int .i64 5) ∧ Below w.heap.size w w' := by
  obtain ⟨a, cap, rfl, hW⟩ := h.row.waits
  have c0 : w.cell? ⟨gr, 0, none⟩ = some (.slice a qs.length cap) := h.var.cell (i := 0) (by omega)
  have lr := h.var.lt
  have HC := Lib.hid c0
  have HW := Lib.hid hW
  have HE := Lib.hid hn
  obtain ⟨n, hn⟩ : ∃ n, qs.length = n := ⟨_, rfl⟩
  have HN := Lib.hid hn
  rw [hn] at HC hl
  clear h hW c0 hn
  go_enter Try.func24, Try.ntmps24
  go_wp2_with (go_at_call 103; refine Calls.mono (rAt_any gr qs id a n cap _ HC.out lr HN.out.symm (by omega) HW.out) ?_; rintro e w2 ⟨z, rfl, hz, hb⟩; have HB := Lib.hid hb; obtain rfl := at_minus HE.out hz; clear hz hb)
  go_ret
  exact ⟨rfl, HB.out⟩
set_option maxRecDepth 20000 in
set_option maxHeartbeats 1600000 in
theorem rDrop_good (G : Nat → Prop) (gr : Nat) (v : Value) (qs : List Th) (w : World) (i : Nat) (t : Th) (h : RQ G gr v qs w) (hl : qs.length ≤ 200) (hi : qs[i]? = some t) (hn : (qs.map Th.id).Nodup) :
    Calls Try.prog 24 #[.pointer (some ⟨gr, 0, none⟩), .int .i64 t.id] w fun e w' => e = .returned (.int .i64 0) ∧ ∃ v', RQ (fun k => G k ∨ w.heap.size ≤ k) gr v' (qs.take i ++ qs.drop (i + 1)) w' ∧ Kept G w w' := by
  obtain ⟨a, cap, rfl, hW⟩ := h.row.waits
  have c0 : w.cell? ⟨gr, 0, none⟩ = some (.slice a qs.length cap) := h.var.cell (i := 0) (by omega)
  have lr := h.var.lt
  have HC := Lib.hid c0
  have HW := Lib.hid hW
  have HE := Lib.hid hn
  have HI := Lib.hid hi
  have hil := (List.getElem?_eq_some_iff.1 hi).1
  obtain ⟨b, off, rfl, hlt, -, -⟩ := hW.cells hi
  obtain ⟨n, hn⟩ : ∃ n, qs.length = n := ⟨_, rfl⟩
  have HN := Lib.hid hn
  have HQ := Lib.hid (show RQ G gr (.slice (some ⟨b, off, none⟩) n cap) qs w from by rw [← hn]; exact h)
  have hcap := hW.cap'
  rw [hn] at HC hl hil hcap
  have hi0 : ¬ ((i : Int) < 0) := by omega
  have hl1 : (items (qs.take i)).length = i * 2 := by rw [items_length, List.length_take]; omega
  have hl2 : (items (qs.drop (i + 1))).length = (n - (i + 1)) * 2 := by rw [items_length, List.length_drop]; omega
  have HL1 := Lib.hid hl1
  have HL2 := Lib.hid hl2
  have hsp := items_split qs i t hi
  have hit : items (qs.take i) = (items qs).take (i * 2) := by rw [hsp, ← hl1, List.take_left]
  have HIT := Lib.hid hit
  have HV2 : Hid (Vals w (some ⟨b, off + (i + 1) * 2, none⟩) (items (qs.drop (i + 1)))) := Lib.hid (by
    have h := hW.vals
    rw [hsp] at h
    have h := h.drop.drop
    rw [hl1] at h
    simpa [show off + i * 2 + 2 = off + (i + 1) * 2 from by omega] using h)
  clear h hW c0 hn hi hsp hit hl1 hl2
  go_enter Try.func24, Try.ntmps24
  go_upto_region 4 with (go_at_call 103; refine Calls.mono (rAt_any gr qs t.id (some ⟨b, off, none⟩) n cap _ HC.out lr HN.out.symm (by omega) HW.out) ?_; rintro e w2 ⟨z, rfl, hz, hb⟩; have HB := Lib.hid hb; obtain rfl := at_there HI.out HE.out hz; have d0 : w2.cell? ⟨gr, 0, none⟩ = some (.slice (some ⟨b, off, none⟩) n cap) := (hb.cell (p := ⟨gr, 0, none⟩) lr).trans HC.out; have d1 := Nat.lt_of_lt_of_le lr hb.size; have HQ2 := Lib.hid (HQ.out.below hb); have HV3 := Lib.hid (HV2.out.below hb (Nat.le_refl _)); clear hz hb)
  have hwr : IntKind.i64.wrap ((i : Int) + 1) = (i : Int) + 1 := IntWalk.i64_in _ (by omega)
  have i1 : (0 : Int) ≤ (i : Int) := by omega
  have i2 : (i : Int) ≤ (cap : Int) := by omega
  have i3 : (0 : Int) ≤ (i : Int) + 1 := by omega
  have i4 : (i : Int) + 1 ≤ (n : Int) := by omega
  have i5 : (n : Int) ≤ (cap : Int) := by omega
  have HS3 : Hid (spanRow w2.drew 0 30 2 (.slice (some ⟨b, off, none⟩) i i) i (items (qs.take i))) := Lib.hid (by
    rw [HIT.out]
    have h := HQ2.out.row
    rw [HN.out] at h
    exact (h.head (by omega)).below (Below.refl _ _).drew)
  have f0 := HQ2.out.var.frozen 0
  have HQ3 := Lib.hid (HQ2.out.below (Below.refl w2.heap.size w2).drew)
  by_cases hc1 : i + 1 = cap
  · have HXV : Hid (Vals w2.drew (some (⟨b, off, none⟩ : Addr)) (items (qs.drop (i + 1)))) := Lib.hid (by
      intro hp
      rw [HL2.out] at hp
      omega)
    have HL3 : Hid ((items (qs.drop (i + 1))).length = 0 * 2) := Lib.hid (by rw [HL2.out]; omega)
    go_region_law (refine step_append_span _ (by rfl) _ _ 22 (by rfl) 30 (.agg #[.int .i64 0, .int .i64 0]) 2 16 Try.underlying22 infoItem (by rfl) (by decide) ⟨b, off, none⟩ i (items (qs.take i)) (by rfl) HS3.out ⟨b, off, none⟩ 0 _ (items (qs.drop (i + 1))) (by rfl) rfl HL3.out HXV.out (by unfold maxLen; omega) (by omega) ?_; intro sp cap3 w3 hs3 hb3 hg3; have HS4 := Lib.hid hs3; have HB4 := Lib.hid hb3; have HG4 := Lib.hid hg3; have g0 : w3.cell? ⟨gr, 0, none⟩ = some (.slice (some ⟨b, off, none⟩) n cap) := (hb3.cell (p := ⟨gr, 0, none⟩) d1).trans d0; have g1 : w3.frozen? ⟨gr, 0, none⟩ = false := (hb3.frozen (p := ⟨gr, 0, none⟩) d1).trans f0; have g2 : gr < w3.heap.size := Nat.lt_of_lt_of_le d1 hb3.size; clear hs3 hb3 hg3)
    all_goals
      go_wp2_with fail
      have hr := RQ.stored (B := w.heap.size) (qs' := qs.take i ++ qs.drop (i + 1)) HQ3.out HB4.out HS4.out HG4.out (items_app _ _) (by rw [List.length_append, List.length_take, List.length_drop, HN.out]; omega) HB.out.size
      simp only [Nat.add_zero, hc1] at hr
      go_ret
      exact ⟨rfl, ⟨_, hr.1⟩, ((Kept.below (F := G) HB.out).drew).trans hr.2 (fun x hx => .inl hx)⟩
  · have hc2 : ¬ cap = i + 1 := fun e => hc1 e.symm
    have HXV : Hid (Vals w2.drew (some (⟨b, off + (i + 1) * 2, none⟩ : Addr)) (items (qs.drop (i + 1)))) := HV3
    go_region_law (refine step_append_span _ (by rfl) _ _ 22 (by rfl) 30 (.agg #[.int .i64 0, .int .i64 0]) 2 16 Try.underlying22 infoItem (by rfl) (by decide) ⟨b, off, none⟩ i (items (qs.take i)) (by rfl) HS3.out ⟨b, off + (i + 1) * 2, none⟩ (n - (i + 1)) _ (items (qs.drop (i + 1))) (by rfl) rfl HL2.out HXV.out (by unfold maxLen; omega) (by omega) ?_; intro sp cap3 w3 hs3 hb3 hg3; have HS4 := Lib.hid hs3; have HB4 := Lib.hid hb3; have HG4 := Lib.hid hg3; have g0 : w3.cell? ⟨gr, 0, none⟩ = some (.slice (some ⟨b, off, none⟩) n cap) := (hb3.cell (p := ⟨gr, 0, none⟩) d1).trans d0; have g1 : w3.frozen? ⟨gr, 0, none⟩ = false := (hb3.frozen (p := ⟨gr, 0, none⟩) d1).trans f0; have g2 : gr < w3.heap.size := Nat.lt_of_lt_of_le d1 hb3.size; clear hs3 hb3 hg3)
    all_goals
      go_wp2_with fail
      have hr := RQ.stored (B := w.heap.size) (qs' := qs.take i ++ qs.drop (i + 1)) HQ3.out HB4.out HS4.out HG4.out (items_app _ _) (by rw [List.length_append, List.length_take, List.length_drop, HN.out]; omega) HB.out.size
      go_ret
      exact ⟨rfl, ⟨_, hr.1⟩, ((Kept.below (F := G) HB.out).drew).trans hr.2 (fun x hx => .inl hx)⟩
end Go.Proofs.Ytfjoakhcgpckgaa
