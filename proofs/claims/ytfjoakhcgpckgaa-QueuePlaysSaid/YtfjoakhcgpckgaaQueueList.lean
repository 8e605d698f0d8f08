/- Contract: the list of a queue. -/
import Derived.Test.YtfjoakhcgpckgaaQueueListM
namespace Go.Proofs.Ytfjoakhcgpckgaa
open Go.ChangeShapes Go.WideShapes Go.ChangeAt Go.RowKit
set_option linter.unusedVariables false
open Hp
set_option maxRecDepth 20000 in
set_option maxHeartbeats 4000000 in
theorem List_any (F : Nat → Prop) (gq gm : Nat) (born : Int) (v : Value) (ts : List Th) (w : World) (h : HW F gq gm born v ts w) (h4 : ts.length ≤ 200) (hid : ∀ t, t ∈ ts → (Lit.int .i64 t.id).wf = true) :
    Calls Try.prog 28 #[.pointer (some ⟨gq, 0, none⟩)] w fun e w' => ∃ os vo, e = .returned vo ∧ os.Perm (ts.map strip) ∧ os.Pairwise le ∧ IsRow w' vo os.length (items os) ∧ Below w.heap.size w w' := by
  have c0 := h.cell
  have lq := h.var.lt
  obtain ⟨n, hnn⟩ : ∃ n, ts.length = n := ⟨_, rfl⟩
  have HN := Lib.hid hnn
  have hsl : ∃ a cap, v = .slice a n cap := by
    rcases h.row.2 with ⟨e, h0⟩ | ⟨g, cap, cur, e, _⟩
    · exact ⟨none, 0, by rw [e, ← hnn, h0]⟩
    · exact ⟨_, cap, by rw [e, hnn]⟩
  obtain ⟨va, vc, rfl⟩ := hsl
  have HH := Lib.hid h
  have H4 := Lib.hid h4
  have HID := Lib.hid hid
  have HQ := Lib.hid (queue_new w)
  have hmm := @run_makeMap Try.prog
  obtain ⟨B, hB⟩ : ∃ B, B = w.heap.size := ⟨_, rfl⟩
  obtain ⟨W1, hW1⟩ : ∃ W, W = (w.alloc (.map #[] 0)).alloc (.cells #[.slice none 0 0, .map (some w.heap.size), .int .i64 0] 176) := ⟨_, rfl⟩
  have hbw : Below w.heap.size w W1 := by rw [hW1]; exact ((Below.refl _ _).alloc (Nat.le_refl _) _).alloc (by simp) _
  have HC : Hid (Copied B (w.heap.size + 1) w.heap.size ts 0 (.slice none 0 0) [] (fun _ => none) w W1) := Lib.hid (by
    rw [hB, hW1]
    exact ⟨HQ.out.hw, HQ.out.map, Nat.le_refl _, HQ.out.heap, by simp, hW1 ▸ hbw⟩)
  have d0 : W1.cell? ⟨gq, 0, none⟩ = some (.slice va n vc) := (h.below hbw).cell
  have lq1 : gq < W1.heap.size := (h.below hbw).var.lt
  have HB0 := Lib.hid hB
  clear h h4 hid hnn
  go_enter Try.func28, Try.ntmps28
  go_upto_region 2 with fail
  rw [← hW1]
  clear hW1 hmm c0 HQ
  obtain ⟨q2, hq2⟩ : ∃ q2, q2 = w.heap.size + 1 := ⟨_, rfl⟩
  obtain ⟨m2, hm2⟩ : ∃ m2, m2 = w.heap.size := ⟨_, rfl⟩
  rw [← hq2]
  rw [← hq2, ← hm2] at HC
  clear hq2 hm2 hbw hB
  go_wp2_with fail
  clear d0 lq1
  go_loopw [18] (fun x wr => ∃ (k : Nat) (v2 : Value) (cs : List Th) (M : Int → Option Nat), k ≤ n ∧ x = .int .i64 k ∧ Hid (Copied B q2 m2 ts k v2 cs M w wr)) (fun v _ => n - (intOf v).toNat)
  case atStart => exact ⟨0, _, _, _, by omega, rfl, HC⟩
  case round =>
    clear HC
    obtain ⟨k, v2, cs, M, hk, rfl, HC⟩ := hrel
    have hsz := HC.out.below.size
    by_cases hkn : k < n
    · obtain ⟨t, ht⟩ : ∃ t, ts[k]? = some t := ⟨_, List.getElem?_eq_getElem (by have := HN.out; omega)⟩
      have hho := HH.out.below (HB0.out ▸ HC.out.below)
      obtain ⟨g, cap, hv, hg, -⟩ := hho.slice (by have := HN.out; omega)
      rw [HN.out] at hv
      simp only [Value.slice.injEq, true_and] at hv
      obtain ⟨rfl, rfl⟩ := hv
      have p0 := hho.ptr ht
      unfold ptr1 at p0
      have htr := (hho.th k t ht).2
      have t0 : wr.cell? ⟨t.blk, 0, none⟩ = some (.int .i64 t.prio) := htr.cell (i := 0) (by omega)
      have t1 : wr.cell? ⟨t.blk, 1, none⟩ = some (.int .i64 t.id) := htr.cell (i := 1) (by omega)
      have t2 : wr.cell? ⟨t.blk, 2, none⟩ = some (.int .i64 t.born) := htr.cell (i := 2) (by omega)
      have t3 : wr.cell? ⟨t.blk, 3, none⟩ = some (.int .i64 (k : Int)) := htr.cell (i := 3) (by omega)
      have lt := htr.lt
      have HT := Lib.hid ht
      have HTR := Lib.hid htr
      have hwf := HID.out t (List.mem_of_getElem? ht)
      clear ht hho htr
      obtain ⟨u, hu⟩ : ∃ u : Th, u = ⟨t.prio, t.id, t.born, wr.heap.size⟩ := ⟨_, rfl⟩
      obtain ⟨W2, hW2⟩ : ∃ W, W = wr.alloc (.cells #[.int .i64 t.prio, .int .i64 t.id, .int .i64 t.born, .int .i64 (k : Int)] 179) := ⟨_, rfl⟩
      go_upto_region 6 with fail
      rw [← hW2]
      have hbk : u.blk = wr.heap.size := by rw [hu]
      have hB2 : Below wr.heap.size wr W2 := by rw [hW2]; exact (Below.refl _ _).alloc (Nat.le_refl _) _
      have HW2 := Lib.hid (HC.out.hw.below hB2)
      have HM2 := Lib.hid (HC.out.map.below hB2)
      have HU2 := Lib.hid (show W2.rowIs u.blk 179 4 (thF u k) from by
        rw [hbk, hW2]
        refine World.rowIs_alloc wr _ _ _ fun i hi => ?_
        have hi : i < 4 := hi
        have : i = 0 ∨ i = 1 ∨ i = 2 ∨ i = 3 := by omega
        rcases this with rfl | rfl | rfl | rfl <;> (rw [hu]; rfl))
      have HT2 := Lib.hid (rowIs_below HTR.out hB2 lt)
      have HBB := Lib.hid (HC.out.below.trans (hB2.mono (show B ≤ wr.heap.size by have := HB0.out; omega)))
      have HUB := Lib.hid (show B ≤ u.blk from by rw [hbk]; have := HB0.out; omega)
      have HUN : Hid (∀ (j : Nat) (a : Th), cs[j]? = some a → a.blk ≠ u.blk) := Lib.hid fun j a hj e => by
        have := (HC.out.hw.th j a hj).2.lt
        rw [e, hbk] at this
        omega
      have HUU := Lib.hid hu
      have e1 : W2.cell? ⟨q2, 1, none⟩ = some (.map (some m2)) := HW2.out.var.cell (i := 1) (by omega)
      have l2 : q2 < W2.heap.size := HW2.out.var.lt
      have e2 : W2.cell? ⟨t.blk, 1, none⟩ = some (.int .i64 t.id) := HT2.out.cell (i := 1) (by omega)
      have l3 : t.blk < W2.heap.size := HT2.out.lt
      rw [← hbk]
      clear hW2 hB2 hbk hu t0 t1 t2 t3 p0 lt
      have HMN := Lib.hid (show u.blk ≠ m2 from fun e => map_ne HM2.out HU2.out e)
      have hk6 : k ≤ 1000000 := by have := H4.out; have := HN.out; omega
      go_still_tail 9, (by kernel_rfl)
      change wpList _ _ _ _ _ W2.drew
      go_wp2_with (first
        | (at_mapUpdate; refine wpList_mapPut _ (by rfl) _ _ _ (by rfl) m2 k M t.id u.blk (by rfl) (HM2.out.below (Below.refl _ _).drew) (by unfold maxLen; omega) hwf (by rfl) (by rfl) ?_; intro w3 hm3 hg3; have HM3 := Lib.hid hm3; have HW3 := Lib.hid ((HW2.out.drew).mapped (HM2.out.below (Below.refl _ _).drew) hg3); have HU3 := Lib.hid (rowIs_grown (HU2.out.drew) hg3 (fun e => HMN.out (Option.some.inj e))); have HB3 := Lib.hid ((HBB.out.drew).grown hg3 (by have := HBB.out.size; have := HB0.out; show B ≤ W2.heap.size; omega) (fun k hk => by cases hk; exact HC.out.gm')); have lq3 : q2 < w3.heap.size := HW3.out.var.lt; clear hm3 hg3)
        | (go_at_call 110; refine Calls.mono (hPush_any (fun k => B ≤ k ∧ k ≠ m2) q2 m2 0 v2 cs u k _ (HW3.out.without HM3.out) HC.out.heap HU3.out ⟨HUB.out, HMN.out⟩ HUN.out (by have h1 := HC.out.len (by have := HN.out; omega); have := H4.out; have := HN.out; omega)) ?_; rintro e w4 ⟨rfl, v4, us, hp, hh, hw4, hk4⟩))
      have hsz3 := HB3.out.size
      have HC4 : Hid (Copied B q2 m2 ts (k + 1) v4 us (setM M t.id (some u.blk)) w w4) := Lib.hid (by
        refine ⟨hw4.wide fun x hx => ?_, HM3.out.kept hk4 (fun hf => hf.2 rfl), HC.out.gm', hh, ?_, ?_⟩
        · rcases hx with hx | hx
          · exact hx.1
          · have := HB0.out; omega
        · refine (hp.map strip).trans ?_
          rw [List.map_append, List.take_add_one, HT.out]
          simp only [Option.toList_some, List.map_append, List.map_cons, List.map_nil]
          have e : strip u = strip t := by rw [HUU.out]; rfl
          rw [e]
          exact List.Perm.append_right _ HC.out.perm
        · exact HB3.out.trans (hk4.toBelow (by have := HB0.out; omega) (fun x hx => hx.1)))
      clear hp hh hw4 hk4 hsz3
      go_roundw
      case rel => exact ⟨k + 1, _, _, _, by omega, rfl, HC4⟩
      case measure => simp [intOf]; omega
    · obtain rfl : k = n := by omega
      have HL0 : Hid (Listed B wr.heap.size q2 m2 (ts.map strip) [] (.slice none 0 0) v2 cs M ts.length w wr) := Lib.hid (Copied.listed (by rw [HN.out]; exact HC.out) (by have := HB0.out; omega))
      obtain ⟨A, hA⟩ : ∃ A, A = wr.heap.size := ⟨_, rfl⟩
      rw [← hA] at HL0
      go_wp2_with fail
      clear hA HC
      go_loopg [7] k (fun g x wx => ∃ (out cs : List Th) (v2 : Value) (M : Int → Option Nat), cs.length ≤ g ∧ Hid (Listed B A q2 m2 (ts.map strip) out x v2 cs M ts.length w wx))
      case atStart => exact ⟨[], cs, v2, M, by have h1 := HL0.out.sum; have := HN.out; simp at h1; omega, HL0⟩
      case round =>
        clear HL0
        obtain ⟨out, cs, v2, M, hg, HL⟩ := hrel
        have hlx := HL.out.below.size
        have hax := HL.out.ha.2
        cases cs with
        | nil =>
          have HR := Lib.hid (HL.out.taken.done)
          go_wp2_with (go_at_call 27; refine Calls.mono (Take_none _ q2 m2 0 v2 _ HL.out.hw) ?_; rintro e w5 ⟨rfl, hb5⟩; have HB5 := Lib.hid hb5; clear hb5)
          go_ret
          have hbb : Below wr.heap.size wr (w5.alloc (.cells #[.int .i64 0, .int .i64 0] 30)) := HB5.out.alloc HB5.out.size _
          exact ⟨out, _, rfl, HR.out.1, HR.out.2, (IsRow.own (by decide) HL.out.own).below hbb (Nat.le_refl _), (HL.out.below.trans (hbb.mono (by have := HB0.out; omega))).mono (by have := HB0.out; omega)⟩
        | cons a cs =>
          have h0 : (a :: cs)[0]? = some a := rfl
          obtain ⟨t, ht, htid⟩ := HL.out.mem (a := a) (by simp)
          have hwf : (Lit.int .i64 a.id).wf = true := by rw [← htid]; exact HID.out t ht
          have hsum := HL.out.sum
          have hcl : (a :: cs).length ≤ 900 := by have := H4.out; omega
          obtain ⟨m, hm⟩ : ∃ m, out.length = m := ⟨_, rfl⟩
          have HM := Lib.hid hm
          have hm2 : m ≤ 200 := by have := H4.out; omega
          clear ht htid hsum hm
          go_wp2_with (first
            | (go_at_call 27; refine Calls.mono (Take_some _ q2 m2 0 M ts.length v2 (a :: cs) a _ HL.out.hw HL.out.map HL.out.gm' HL.out.heap h0 hcl hwf) ?_; rintro e w6 ⟨rfl, v6, us, hp, hh, hw6, hm6, hk6⟩; have HP := Lib.hid hp; have HHP := Lib.hid hh; have HW6 := Lib.hid hw6; have HM6 := Lib.hid hm6; have HK6 := Lib.hid hk6; have HO6 := Lib.hid (own_kept HL.out.own hk6 (fun k hk hf => by have := (HL.out.own.lt k hk).1; omega)); have hs6 := hk6.size; clear hp hh hw6 hm6 hk6)
            | (at_builtin; go_loud (refine wpList_pushN _ (by rfl) _ _ 22 (by rfl) A 30 (.agg #[.int .i64 0, .int .i64 0]) 2 16 Try.underlying22 infoItem (by rfl) (by decide) u7 m _ [.int .i64 a.prio, .int .i64 a.id] (w6.heap.size + 1) (by simp) (by rfl) (by rw [← HM.out]; exact HO6.out.alloc _) (by rfl) (by rfl) (by intro u hu; simp at hu; rcases hu with rfl | rfl <;> rfl) (by unfold maxLen; omega) (by omega) (by simp; omega) ?_; intro gg cap2 w7 hown1 hgrow1 hgb hgl; have HO7 := Lib.hid hown1; have HB7 := Lib.hid (((Below.refl A w6).alloc (by omega) (.cells #[.int .i64 a.prio, .int .i64 a.id] 30)).grown hgrow1 (by simp; omega) (ownBlock_ge HO6.out (Nat.le_refl _))); clear hown1 hgrow1 hgb)))
          have HL7 := Lib.hid (HL.out.next h0 HP.out HHP.out HW6.out HM6.out HK6.out HB7.out (by rw [HM.out]; exact HO7.out) (by have := HB0.out; omega) hlx)
          go_roundg (gk - 1)
          case measure => simp at hg; omega
          case rel => exact ⟨_, us, v6, _, by have h1 := HP.out.length_eq; simp at h1 hg; omega, HL7⟩
end Go.Proofs.Ytfjoakhcgpckgaa
