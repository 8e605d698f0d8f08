/- Contract: the wheel's Cancel. -/
import Derived.Test.YtjoejdpoehpkiaaWheelDel
import Derived.Test.YtjoejdpoehpkiaaWheelCanR
import Derived.RegionTactic
namespace Go.Proofs.Ytjoejdpoehpkiaa
open Go.ChangeShapes Go.WideShapes Go.ChangeAt Go.RowKit
set_option linter.unusedVariables false
open Wh
theorem Kept.cell {F : Nat → Prop} {w w' : World} (h : Kept F w w') {p : Addr} (hp : p.block < w.heap.size) (hn : ¬ F p.block) : w'.cell? p = w.cell? p := by
  unfold World.cell?
  rw [h.block p.block hp hn]
def WCanP (F : Nat → Prop) (gw k : Nat) (now : Int) (T : List Tm) (id : Int) (w : World) (e : Ending) (w' : World) : Prop :=
  ∃ z T', e = .returned (.int .i64 z) ∧ CanS T id z T' ∧ PWE (fun y => F y ∨ w.heap.size ≤ y) gw (k + 1) now T' w' ∧ Kept F w w'
/-- a timer is struck: what is then in the wheel -/
theorem In.strike {k : Nat} {now born : Int} {T : List Tm} {S : Nat → List Tm} {f : Int → Int} {h : Int → Bool} {c q : Nat} (H : In k now born T S f h c q) {x : Tm} (hx : x ∈ T) :
    In (k + 1) now born (T.filter fun t => t.id != x.id) (upd S (pl now x.at') ((S (pl now x.at')).filter fun t => t.id != x.id)) (delI f x.id) (delB h x.id) (c - 1) q := by
  have hs := H.short
  have hf := H.few
  have hn := H.nows
  have hsub : (T.filter fun t => t.id != x.id).Sublist T := List.filter_sublist
  have hun : ∀ t, t ∈ T → t.id = x.id → t = x := fun t ht e => H.came.uniq ht hx e
  refine ⟨⟨fun id => ?_, fun u hu => ?_, ?_⟩, H.inv.strike hx hun, H.came.sub hsub, fun u hu => H.old u (hsub.subset hu), fun u hu => H.far u (hsub.subset hu), Nat.le_trans hsub.length_le hs, by omega, by omega, fun u hu => H.wf u (hsub.subset hu)⟩
  · unfold delB
    rw [Bool.and_eq_true, H.mt.mem]
    simp only [Bool.not_eq_true', decide_eq_false_iff_not, List.mem_filter, bne_iff_ne, ne_eq]
    constructor
    · rintro ⟨⟨t, h1, h2⟩, h3⟩
      exact ⟨t, ⟨h1, fun e => h3 (by rw [← e, h2])⟩, h2⟩
    · rintro ⟨t, ⟨h1, h2⟩, h3⟩
      exact ⟨⟨t, h1, h3⟩, fun e => h2 (by rw [h3, ← e])⟩
  · rw [List.mem_filter] at hu
    unfold delI
    rw [if_neg (by simpa using hu.2)]
    exact H.mt.at' u hu.1
  · rw [H.mt.len]
    obtain ⟨b, hb⟩ := List.getElem?_of_mem hx
    have h1 : (T.filter fun t => t.id != x.id) = T.filter fun t => decide (t ∉ [x]) := List.filter_congr fun t ht => by
      by_cases e : t = x
      · subst e; simp
      · have : t.id ≠ x.id := fun e2 => e (hun t ht e2)
        simp [e, this]
    rw [h1, ← filter_take_drop H.came.nodup hb, List.length_append, List.length_take, List.length_drop]
    have := (List.getElem?_eq_some_iff.1 hb).1
    omega
/-- what the document strikes -/
theorem canS_of {T : List Tm} (hc : Came T) {x : Tm} (hx : x ∈ T) : CanS T x.id 0 (T.filter fun t => t.id != x.id) := by
  obtain ⟨b, hb⟩ := List.getElem?_of_mem hx
  refine .inr ⟨b, x, hb, rfl, rfl, ?_⟩
  rw [filter_take_drop hc.nodup hb]
  exact List.filter_congr fun t ht => by
    by_cases e : t = x
    · subst e; simp
    · have : t.id ≠ x.id := fun e2 => e (hc.uniq ht hx e2)
      simp [e, this]
theorem erase_filter {l : List Tm} {i : Nat} {x : Tm} (hi : l[i]? = some x) (hu : ∀ (p : Nat) (t : Tm), l[p]? = some t → (t.id = x.id ↔ p = i)) : l.eraseIdx i = l.filter fun t => t.id != x.id := by
  obtain ⟨u, v, rfl, rfl⟩ : ∃ u v, l = u ++ x :: v ∧ u.length = i := by
    obtain ⟨hb, rfl⟩ := List.getElem?_eq_some_iff.1 hi
    exact ⟨l.take i, l.drop (i + 1), by rw [← List.drop_eq_getElem_cons hb, List.take_append_drop], by rw [List.length_take]; omega⟩
  have e1 : u.filter (fun t => t.id != x.id) = u := List.filter_eq_self.2 fun t ht => by
    obtain ⟨p, hp, rfl⟩ := List.getElem_of_mem ht
    have := hu p u[p] (by rw [List.getElem?_append_left hp, List.getElem?_eq_getElem hp])
    simp only [bne_iff_ne, ne_eq]
    omega
  have e2 : v.filter (fun t => t.id != x.id) = v := List.filter_eq_self.2 fun t ht => by
    obtain ⟨p, hp, rfl⟩ := List.getElem_of_mem ht
    have := hu (u.length + 1 + p) v[p] (by rw [List.getElem?_append_right (by omega), show u.length + 1 + p - u.length = p + 1 from by omega, List.getElem?_cons_succ, List.getElem?_eq_getElem hp])
    simp only [bne_iff_ne, ne_eq]
    omega
  rw [List.filter_append, List.filter_cons, e1, e2]
  simp [List.eraseIdx_append_of_length_le]
set_option maxRecDepth 20000 in
set_option maxHeartbeats 8000000 in
theorem wCancel_any (F : Nat → Prop) (gw k : Nat) (now : Int) (T : List Tm) (id : Int) (w : World) (H : PWE F gw k now T w) (hk : k ≤ 300) (hid : (Lit.int .i64 id).wf = true) :
    Calls Try.prog 7 #[.pointer (some ⟨gw, 0, none⟩), .int .i64 id] w fun e w' => WCanP F gw k now T id w e w' := by
  obtain ⟨gm, born, V, S, f, h, c, q, H⟩ := H
  obtain ⟨bx, hbx⟩ : ∃ b, w.heap.size = b := ⟨_, rfl⟩
  obtain ⟨W1, hW1⟩ : ∃ W, W = w.alloc (.cells #[.int .i64 id] 3) := ⟨_, rfl⟩
  have hb1 : Below w.heap.size w W1 := by rw [hW1]; exact (Below.refl _ _).alloc (Nat.le_refl _) _
  have HB1 := Lib.hid hb1
  have H1 := H.below hb1
  have HP1 := Lib.hid H1
  have HH := Lib.hid H
  have b0 : W1.cell? ⟨bx, 0, none⟩ = some (.int .i64 id) := by rw [hW1, ← hbx]; simp
  have b1 : bx < W1.heap.size := by rw [hW1, ← hbx]; simp
  have c2 := H1.ww.c2
  have lw := H1.ww.var.lt
  obtain ⟨fi, hfi⟩ : ∃ y, f id = y := ⟨_, rfl⟩
  obtain ⟨hi, hhi⟩ : ∃ y, h id = y := ⟨_, rfl⟩
  have HHI := Lib.hid hhi
  have HFI := Lib.hid hfi
  have HID := Lib.hid hid
  have HBX := Lib.hid hbx
  clear H hfi hhi hid hb1 H1
  have hd1 : Below W1.heap.size W1 W1.drew := (Below.refl _ _).drew
  have hlk : (Instr.lookup 43 (.map (some gm)) (.int .i64 id) true).run Try.prog W1.drew = .ok (.tuple #[.int .i64 fi, .bool hi]) W1.drew := by
    have := (HP1.out.map.below hd1).look (w := W1.drew) HID.out
    rwa [HFI.out, HHI.out] at this
  have HP2 := Lib.hid (HP1.out.below hd1)
  have HB2 : Hid (Below w.heap.size w W1.drew) := Lib.hid HB1.out.drew
  clear hd1
  cases hi with
  | false =>
    have HE : Hid (CanS T id 5 T) := Lib.hid (.inl ⟨fun t ht e => (by
      have := (HH.out.in'.mt.mem id).2 ⟨t, ht, e⟩
      rw [HHI.out] at this
      cases this), rfl, rfl⟩)
    go_enter Try.func7, Try.ntmps7
    go_upto_region 1 with fail
    rw [← hW1]
    clear hW1 hbx
    go_region
    all_goals
      go_wp2_with fail
      go_ret
      exact ⟨5, T, rfl, HE.out, PWE.wide (PWE.next ⟨_, _, _, _, _, _, _, _, HP2.out⟩) (fun y hy => .inl hy), Kept.below HB2.out⟩
  | true =>
    obtain ⟨x, hxT, hxi⟩ : ∃ t, t ∈ T ∧ t.id = id := (HH.out.in'.mt.mem id).1 HHI.out
    subst hxi
    have hfx : fi = x.at' := by rw [← HFI.out]; exact HH.out.in'.mt.at' x hxT
    have HXT := Lib.hid hxT
    -- the map is struck
    obtain ⟨W2, hW2⟩ : ∃ W, W1.drew.drew = W := ⟨_, rfl⟩
    have hb2 : Below W1.drew.heap.size W1.drew W2 := by rw [← hW2]; exact (Below.refl _ _).drew
    have HP3 := Lib.hid (HP2.out.below hb2)
    have HB3 : Hid (Below w.heap.size w W2) := Lib.hid (HB2.out.trans (hb2.mono HB2.out.size))
    obtain ⟨W3, hdel, hM3, ht3⟩ := HP3.out.map.strike HID.out 0
    have HM3 : Hid (BoxM gm q (delI f x.id) (delB h x.id) (c - 1) W3) := Lib.hid (by rw [HHI.out] at hM3; exact hM3)
    have hg3 := ht3.grown
    have HW3 := Lib.hid (HP3.out.ww.mapped HP3.out.map hg3)
    have HK3 : Hid (Kept F w W3) := Lib.hid ((Kept.below (F := F) HB3.out).grown hg3 (fun k hk => .inl (by cases hk; exact HH.out.fm)))
    have hbg : bx ≠ gm := by have := HH.out.map.lt; omega
    have e0 : W2.cell? ⟨bx, 0, none⟩ = some (.int .i64 x.id) := by rw [← hW2]; exact b0
    have e1 : W3.cell? ⟨bx, 0, none⟩ = some (.int .i64 x.id) := hg3.cell e0 (fun e => hbg (Option.some.inj e))
    have e2 : bx < W3.heap.size := Nat.lt_of_lt_of_le (by rw [← hW2]; exact b1) hg3.size
    have l2 : gw < W2.heap.size := HP3.out.ww.var.lt
    have f2 := HP3.out.ww.c2
    have hnw := HH.out.in'.nows
    have hfr := HH.out.in'.far x hxT
    have HSL := Lib.hid (slot_any F gw gm now born V S x.at' W3 HW3.out (by omega) (by omega))
    obtain ⟨cc, hcc⟩ : ∃ c, pl now x.at' = c := ⟨_, rfl⟩
    have hc320 : cc < 320 := by rw [← hcc]; exact pl_lt _ _
    have hxS : x ∈ S cc := (HH.out.in'.inv.mem cc x).2 ⟨hxT, hcc⟩
    obtain ⟨i0, hi0⟩ := List.getElem?_of_mem hxS
    obtain ⟨n, hn⟩ : ∃ n, (S cc).length = n := ⟨_, rfl⟩
    have hin := (List.getElem?_eq_some_iff.1 hi0).1
    have hn200 : n ≤ 200 := by
      have hs := HH.out.in'.short
      have := (HH.out.in'.inv.nodup cc).length_le_of_subset (l₂ := T) (fun t ht => ((HH.out.in'.inv.mem _ t).1 ht).1)
      omega
    have HUN : Hid (∀ (p : Nat) (t : Tm), (S cc)[p]? = some t → (t.id = x.id ↔ p = i0)) := Lib.hid (fun p t hp => by
      constructor
      · intro e
        have htT := ((HH.out.in'.inv.mem cc t).1 (List.mem_of_getElem? hp)).1
        have := HH.out.in'.came.uniq htT HXT.out e
        subst this
        have hnd := List.pairwise_iff_getElem.1 (HH.out.in'.inv.nodup cc)
        obtain ⟨h1, h2⟩ := List.getElem?_eq_some_iff.1 hp
        obtain ⟨h3, h4⟩ := List.getElem?_eq_some_iff.1 hi0
        rcases Nat.lt_trichotomy p i0 with h5 | h5 | h5
        · exact absurd (h2.trans h4.symm) (hnd p i0 h1 h3 h5)
        · exact h5
        · exact absurd (h4.trans h2.symm) (hnd i0 p h3 h1 h5)
      · intro e
        subst e
        rw [hi0] at hp
        cases hp
        rfl)
    have hrow := HW3.out.row cc hc320
    obtain ⟨va, vc, hv, hvc, hvm⟩ := own_sliceF hrow
    rw [hn] at hv hvc
    obtain ⟨g, hg⟩ : ∃ g, va = some ⟨g, 0, none⟩ := by
      rcases hrow.2 with ⟨e, e'⟩ | ⟨g, cap, cur, e, _⟩
      · omega
      · rw [hv] at e
        simp only [Value.slice.injEq] at e
        exact ⟨g, e.1⟩
    subst hg
    have hgl : g < w.heap.size := ((HH.out.ww.row cc hc320).lt g (by rw [hv]; rfl)).2
    have hbxg : bx ≠ g := by omega
    have HV := Lib.hid hv
    have HI0 := Lib.hid hi0
    have HN := Lib.hid hn
    have HGL := Lib.hid hgl
    have HCC := Lib.hid hcc
    have HVC := Lib.hid (show n ≤ vc ∧ vc ≤ maxLen ∧ i0 < n ∧ n ≤ 200 from ⟨hvc, hvm, by omega, hn200⟩)
    have HBG := Lib.hid hbxg
    clear hM3 ht3 hg3 hb2 hxT hxS hi0 hn hin hn200 hrow hvc hvm hgl hcc hbxg hv hnw hfr hbg
    go_enter Try.func7, Try.ntmps7
    go_upto_region 1 with fail
    rw [← hW1]
    clear hW1 hbx
    go_region
    all_goals
      go_upto_region 4 with fail
      go_region
      all_goals
        clear hdel hlk c2 lw b0 b1 e0 l2 f2
        clear hfx
        go_upto_region 6 with (go_at_call 16; refine Calls.mono HSL.out ?_; rintro e w4 ⟨rfl, hq4⟩; rw [HCC.out]; have HQ4 := Lib.hid hq4; clear hq4)
        have hb4 : Below W3.heap.size W3 w4 := by obtain ⟨q, rfl⟩ := HQ4.out; exact (Drawn.drewN W3 q).below _
        have HW4 := Lib.hid (HW3.out.below hb4)
        have HM4 := Lib.hid (HM3.out.below hb4)
        have HK4 : Hid (Kept F w w4) := Lib.hid (HK3.out.trans (Kept.below (F := fun _ => False) hb4) (fun _ hx => hx.elim))
        have a1 := (hb4.cell (p := ⟨bx, 0, none⟩) e2).trans e1
        have a2 := Nat.lt_of_lt_of_le e2 hb4.size
        have d0 : w4.cell? ⟨gw, 3 + cc, none⟩ = some (.slice (some ⟨g, 0, none⟩) n vc) := by rw [← HV.out]; exact HW4.out.cs hc320
        have d2 := HW4.out.var.lt
        have HDF : Hid (Calls Try.prog 17 #[.slice (some ⟨g, 0, none⟩) n vc, clos bx] w4 fun e w' => e = .returned (.slice (some ⟨g, 0, none⟩) (n - 1) vc) ∧ (∃ f', w'.rowIs g 51 (vc * 3) f' ∧ ∀ (p : Nat) (t : Tm), ((S cc).eraseIdx i0)[p]? = some t → TmAt f' p t) ∧ Kept (fun k => k = g) w4 w') := Lib.hid (by
          have hrow := HW4.out.row cc hc320
          rw [HV.out, HN.out] at hrow
          obtain ⟨f, h1, _, h3, h4, h5⟩ := own_toRow hrow
          exact DelFunc (S cc) g n vc bx i0 x.id f w4 h1 h3 h4 HN.out (by have := HVC.out; omega) (fun p t hp => TmAt.of h5 hp) a2 a1 HBG.out HUN.out HVC.out.2.2.1)
        clear hb4 e1 e2 a1 a2
        unfold clos at HDF
        go_wp2_with (go_at_call 17; refine Calls.mono HDF.out ?_; rintro e w5 ⟨rfl, hr5, hk5⟩; have HR5 := Lib.hid hr5; have HK5 := Lib.hid hk5; have v0 : w5.cell? ⟨gw, 3 + cc, none⟩ = some (.slice (some ⟨g, 0, none⟩) n vc) := (Kept.cell hk5 (p := ⟨gw, 3 + cc, none⟩) d2 (fun e => own_neR (HW4.out.row cc hc320) HW4.out.var (by decide) (by rw [HV.out]; exact congrArg some e.symm))).trans d0; have v1 := (HW4.out.var.of_block (hk5.block gw d2 (fun e => own_neR (HW4.out.row cc hc320) HW4.out.var (by decide) (by rw [HV.out]; exact congrArg some e.symm)))).frozen (3 + cc); have v2 := Nat.lt_of_lt_of_le d2 hk5.size; clear hr5 hk5)
        go_ret
        obtain ⟨f5, hf5, hx5⟩ := HR5.out
        have hle : ((S cc).eraseIdx i0).length = n - 1 := by rw [List.length_eraseIdx, if_pos (by rw [HN.out]; exact HVC.out.2.2.1), HN.out]
        have hfl := erase_filter HI0.out HUN.out
        have ho5 : w5.ownsRow 0 51 3 (.slice (some ⟨g, 0, none⟩) (n - 1) vc) ((S cc).eraseIdx i0).length (tms ((S cc).eraseIdx i0)) := by
          have h1 := HVC.out
          rw [hle]
          exact own_ofRow hf5 (Nat.zero_le _) (by omega) h1.2.1 (by rw [tms_length, hle]) (tms_of hx5)
        have hst := HW4.out.stored (c := cc) hc320 (v' := .slice (some ⟨g, 0, none⟩) (n - 1) vc) (l' := (S cc).eraseIdx i0) (B := w.heap.size) HK4.out.size (fun k hk hne => HK5.out.block k hk (fun e => hne (by rw [HV.out]; exact congrArg some e.symm))) HK5.out.size ho5 (fun g' e => .inl (by rw [HV.out]; exact e))
        have hkf : Kept F w (w5.setCell ⟨gw, 3 + cc, none⟩ (.slice (some ⟨g, 0, none⟩) (n - 1) vc)) := (HK4.out.trans HK5.out (fun k hk => .inl (by rw [hk]; exact HH.out.ww.rowF cc g hc320 (by rw [HV.out]; rfl)))).setCell (p := ⟨gw, 3 + cc, none⟩) (.inl HH.out.ww.fw) _
        have hm5 : BoxM gm q (delI f x.id) (delB h x.id) (c - 1) (w5.setCell ⟨gw, 3 + cc, none⟩ (.slice (some ⟨g, 0, none⟩) (n - 1) vc)) := HM4.out.kept ((Below.heap_setCell w5 _ _ gm (fun e => HM4.out.ne_row HW4.out.var e.symm)).trans (HK5.out.block gm HM4.out.lt (fun e => HM4.out.ne_own (HW4.out.row cc hc320) (by rw [HV.out]; exact congrArg some e.symm))))
        rw [hfl] at hst
        have hin := HH.out.in'.strike HXT.out
        rw [HCC.out] at hin
        exact ⟨0, _, rfl, canS_of HH.out.in'.came HXT.out, ⟨gm, born, _, _, _, _, _, _, hst, hm5, .inl HH.out.fm, hin⟩, hkf⟩
end Go.Proofs.Ytjoejdpoehpkiaa
