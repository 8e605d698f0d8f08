/- The walk of the law QueuePlays: for every row of acts it answers true. -/
import Derived.Test.YtfjoakhcgpckgaaQueuePlayM
import Derived.Test.YtfjoakhcgpckgaaQueueLaw
import Derived.Test.YtfjoakhcgpckgaaActs
import Derived.Deep.CutBlock
import Derived.Deep.RegionHeld3
namespace Go.Proofs.Ytfjoakhcgpckgaa
open Go.ChangeShapes Go.WideShapes Go.ChangeAt Go.RowKit
set_option linter.unusedVariables false
open Hp
/-- both queues, apart from each other -/
structure Playing (B gq gm gr k : Nat) (F G : Nat → Prop) (qs : List Th) (w wr : World) : Prop where
  pq : PQE F gq gm k qs wr
  rq : RQE G gr qs wr
  dis : ∀ x, F x → ¬ G x
  lo : ∀ x, F x ∨ G x → B ≤ x
  hi : ∀ x, F x ∨ G x → x < wr.heap.size
  below : Below B w wr
theorem Playing.step {B gq gm gr k : Nat} {F G : Nat → Prop} {qs : List Th} {w wr wx : World} (h : Playing B gq gm gr k F G qs w wr) (hb : Below wr.heap.size wr wx) (hB : B ≤ wr.heap.size) : Playing B gq gm gr k F G qs w wx :=
  ⟨h.pq.below hb, h.rq.below hb, h.dis, h.lo, fun x hx => Nat.lt_of_lt_of_le (h.hi x hx) hb.size, h.below.trans (hb.mono hB)⟩
/-- the program's queue has acted, then the document's -/
theorem Playing.acted {B gq gm gr k : Nat} {F G : Nat → Prop} {qs qs' : List Th} {w wr w1 w2 : World} (h : Playing B gq gm gr k F G qs w wr) (hB : B ≤ wr.heap.size)
    (hp : PQE (fun x => F x ∨ wr.heap.size ≤ x) gq gm (k + 1) qs' w1) (hk : Kept F wr w1) (hr : RQE (fun x => G x ∨ w1.heap.size ≤ x) gr qs' w2) (hk2 : Kept G w1 w2) : ∃ F' G', Playing B gq gm gr (k + 1) F' G' qs' w w2 := by
  have s1 := hk.size
  have s2 := hk2.size
  refine ⟨_, _, hp.small.kept_all fun x hx hxl => hk2.block x hxl fun hg => ?_, hr.small, fun x hx hg => ?_, fun x hx => ?_, fun x hx => ?_, ?_⟩
  · rcases hx.1 with h1 | h1
    · exact h.dis x h1 hg
    · have := h.hi x (.inr hg); omega
  · rcases hg.1 with h2 | h2
    · rcases hx.1 with h1 | h1
      · exact h.dis x h1 h2
      · have := h.hi x (.inr h2); omega
    · omega
  · rcases hx with ⟨h1 | h1, _⟩ | ⟨h1 | h1, _⟩
    · exact h.lo x (.inl h1)
    · omega
    · exact h.lo x (.inr h1)
    · omega
  · rcases hx with ⟨_, h1⟩ | ⟨_, h1⟩
    · omega
    · exact h1
  · exact h.below.trans ((hk.toBelow hB (fun x hx => h.lo x (.inl hx))).trans (hk2.toBelow (by omega) (fun x hx => h.lo x (.inr hx))))
theorem Playing.rqAt {B gq gm gr k : Nat} {F G : Nat → Prop} {qs : List Th} {w wr w1 : World} (h : Playing B gq gm gr k F G qs w wr) (hk : Kept F wr w1) : RQE G gr qs w1 := h.rq.kept_all fun x hx hxl => hk.block x hxl fun hf => h.dis x hf hx
theorem Kept.cell {F : Nat → Prop} {w w' : World} (h : Kept F w w') {b o : Nat} (hb : b < w.heap.size) (hn : ¬ F b) : w'.cell? ⟨b, o, none⟩ = w.cell? ⟨b, o, none⟩ := World.cell?_of_block (h.block b hb hn)
theorem first_row {os qs : List Th} {i : Nat} {x : Th} (hp : os.Perm qs) (hw : os.Pairwise le) (hx : FirstS qs i x) (hs : (qs.map Th.born).Pairwise (· < ·)) : os[0]? = some x := by
  have hm : x ∈ os := hp.mem_iff.2 (List.mem_of_getElem? hx.1)
  cases os with
  | nil => simp at hm
  | cons y l =>
    have h1 : le x y := hx.2 y (hp.mem_iff.1 (by simp))
    rcases List.mem_cons.1 hm with h2 | h2
    · simp [h2]
    · have h3 := (List.pairwise_cons.1 hw).1 x h2
      unfold le at h1 h3
      rw [ahd_not] at h1 h3
      have : x = y := Hp.born_inj (l := qs) (nodup_of_lt hs) (List.mem_of_getElem? hx.1) (hp.mem_iff.1 (by simp)) (by omega)
      simp [this]
/-- a block of the round's own -/
structure Act4 (b : Nat) (t : Ac) (w : World) : Prop where
  c0 : w.cell? ⟨b, 0, none⟩ = some (.int .i64 t.kind)
  c1 : w.cell? ⟨b, 1, none⟩ = some (.int .i64 t.id)
  c2 : w.cell? ⟨b, 2, none⟩ = some (.int .i64 t.prio)
  lt : b < w.heap.size
theorem Act4.kept {F : Nat → Prop} {b : Nat} {t : Ac} {w w' : World} (h : Act4 b t w) (hk : Kept F w w') (hn : ¬ F b) : Act4 b t w' :=
  ⟨(hk.cell h.lt hn).trans h.c0, (hk.cell h.lt hn).trans h.c1, (hk.cell h.lt hn).trans h.c2, Nat.lt_of_lt_of_le h.lt hk.size⟩
theorem Act4.two {b : Nat} {t : Ac} {w : World} (h : Act4 b t w) : w.cell? ⟨b, 1, none⟩ = some (.int .i64 t.id) ∧ w.cell? ⟨b, 2, none⟩ = some (.int .i64 t.prio) := ⟨h.c1, h.c2⟩
set_option maxRecDepth 20000 in
set_option maxHeartbeats 4000000 in
theorem playsLaw (L : List Ac) (a : Option Addr) (n cap : Nat) (w : World) (hn : n = L.length) (hmax : n ≤ 9223372036854775807) (hW : Vals w a (acts L)) (hid : ∀ t, t ∈ L → (Lit.int .i64 t.id).wf = true) :
    Calls Try.prog 5 #[.slice a n cap] w fun e w' => e = .returned (.bool true) ∧ Below w.heap.size w w' := by
  have HW := Lib.hid hW
  have HN := Lib.hid hn
  have HID := Lib.hid hid
  clear hW hn hid
  by_cases hl : 300 < n
  · have hl1 : (n : Int) > 300 := by omega
    go_enter Try.func5, Try.ntmps5
    go_wp2_with fail
    go_ret
    exact ⟨rfl, Below.refl _ _⟩
  · have hl1 : ¬ (n : Int) > 300 := by omega
    obtain ⟨B, hB⟩ : ∃ B, B = w.heap.size := ⟨_, rfl⟩
    have HB0 := Lib.hid hB
    clear hB
    go_enter Try.func5, Try.ntmps5
    go_upto_region 5 with (go_at_call 21; refine Calls.mono (New_any _) ?_; rintro e w1 ⟨gq, gm, rfl, hq, hb⟩; have HQ := Lib.hid hq; have HB := Lib.hid hb; clear hq hb)
    obtain ⟨W2, hW2⟩ : ∃ W, W = w1.alloc (.cells #[.slice none 0 0] 28) := ⟨_, rfl⟩
    rw [← hW2]
    obtain ⟨gr, hgr⟩ : ∃ gr, gr = w1.heap.size := ⟨_, rfl⟩
    rw [← hgr]
    have HP0 : Hid (∃ F G, Playing B gq gm gr 0 F G [] w W2) := Lib.hid (by
      have hb2 : Below w1.heap.size w1 W2 := by rw [hW2]; exact (Below.refl _ _).alloc (Nat.le_refl _) _
      have hp : PQE (fun k => w.heap.size ≤ k) gq gm 0 [] w1 := ⟨0, _, 0, _, [], HQ.out, by simp, by simp, by omega, by simp, fun t ht => (by simp at ht)⟩
      have hr : RQ (fun k => w1.heap.size ≤ k) gr (.slice none 0 0) [] W2 := by rw [hgr, hW2]; exact rq_new w1
      have hs := HB.out.size
      have hs2 := hb2.size
      refine ⟨_, _, hp.small.kept_all (fun x hx hxl => hb2.block x hxl), RQE.small ⟨_, hr⟩, fun x hx hg => ?_, fun x hx => ?_, fun x hx => ?_, ?_⟩
      · have := hx.2; have := hg.1; omega
      · have := HB0.out
        rcases hx with hx | hx
        · have := hx.1; omega
        · have := hx.1; omega
      · rcases hx with hx | hx
        · have := hx.2; omega
        · exact hx.2
      · rw [HB0.out]; exact HB.out.trans (hb2.mono hs))
    clear HQ HB hW2 hgr
    go_wp2_with fail
    go_loopw [19] (fun x wr => ∃ (k : Nat) (F G : Nat → Prop) (qs : List Th), k ≤ n ∧ x = .int .i64 k ∧ Hid (Playing B gq gm gr k F G qs w wr)) (fun v _ => n - (intOf v).toNat)
    case atStart =>
      obtain ⟨F, G, h⟩ := HP0.out
      exact ⟨0, F, G, [], by omega, rfl, Lib.hid h⟩
    case round =>
      clear HP0
      obtain ⟨k, F, G, qs, hk, rfl, HP⟩ := hrel
      have hsz := HP.out.below.size
      by_cases hkn : k < n
      · obtain ⟨t, ht⟩ : ∃ t, L[k]? = some t := ⟨_, List.getElem?_eq_getElem (by have := HN.out; omega)⟩
        obtain ⟨b, off, rfl, hb, t0, t1, t2, t3⟩ := actCells (HW.out.below (HB0.out ▸ HP.out.below) (Nat.le_refl _)) ht
        have hwf := HID.out t (List.mem_of_getElem? ht)
        obtain ⟨W3, hW3⟩ : ∃ W, W = wr.alloc (.cells #[.int .i64 t.kind, .int .i64 t.id, .int .i64 t.prio, .int .i64 t.at'] 49) := ⟨_, rfl⟩
        go_upto_region 9 with fail
        rw [← hW3]
        have hB3 : Below wr.heap.size wr W3 := by rw [hW3]; exact (Below.refl _ _).alloc (Nat.le_refl _) _
        have hA3 : Act4 wr.heap.size t W3 := ⟨by rw [hW3]; simp, by rw [hW3]; simp, by rw [hW3]; simp, by rw [hW3]; simp⟩
        obtain ⟨d0, d1, d2, l3⟩ := hA3
        have HA := Lib.hid (show Act4 wr.heap.size t W3.drew from ⟨d0, d1, d2, l3⟩)
        have HP3 := Lib.hid (HP.out.step hB3 (by have := HB0.out; omega))
        have HBE : Hid (B ≤ W3.heap.size) := Lib.hid (by have := HB0.out; have := hB3.size; omega)
        have HPd := Lib.hid ((HP.out.step hB3 (by have := HB0.out; omega)).step (Below.refl _ _).drew (by have := HB0.out; have := hB3.size; omega))
        have HNF : Hid (¬ F wr.heap.size ∧ ¬ G wr.heap.size) := Lib.hid ⟨fun h => by have := HP.out.hi _ (.inl h); omega, fun h => by have := HP.out.hi _ (.inr h); omega⟩
        have HFA := Lib.hid HPd.out.pq.facts
        have HBD : Hid (B ≤ W3.drew.heap.size) := Lib.hid (by have := HB0.out; have := hB3.size; show B ≤ W3.heap.size; omega)
        obtain ⟨b6, hb6⟩ : ∃ b6, b6 = wr.heap.size := ⟨_, rfl⟩
        rw [← hb6] at HA HNF d0 d1 d2 l3
        rw [← hb6]
        clear hW3 hB3 ht t0 t1 t2 t3 hb6
        go_upto_block 2 with fail
        go_cut [7] (fun v wx => v = .bool true ∧ ∃ F' G' qs', Playing B gq gm gr (k + 1) F' G' qs' w wx)
        case first =>
          cases k1 : (t.kind == 1) with
          | true =>
            go_upto_region 16 with fail
            go_region_held3 (fun W => W.cell? ⟨b6, 1, none⟩ = some (.int .i64 t.id) ∧ W.cell? ⟨b6, 2, none⟩ = some (.int .i64 t.prio))
              ((first | exact HA.out.two | exact HA5.out.two | exact HA6.out.two))
              (first
                | (go_at_call 22; refine Calls.mono (Put_all t.prio t.id HPd.out.pq (by omega) hwf) ?_; rintro e w5 ⟨qs', z, rfl, hs, hp, hk5⟩; have HS := Lib.hid hs; have HP5 := Lib.hid hp; have HK5 := Lib.hid hk5; have HA5 := Lib.hid (HA.out.kept hk5 HNF.out.1); have HR5 := Lib.hid (HPd.out.rqAt hk5); clear hs hp hk5)
                | (go_at_call 14; refine Calls.mono (rPut_all t.prio t.id HR5.out HFA.out.1 HS.out) ?_; rintro e w6 ⟨rfl, hr, hk6⟩; have HR6 := Lib.hid hr; have HK6 := Lib.hid hk6; have HA6 := Lib.hid (HA5.out.kept hk6 HNF.out.2); clear hr hk6))
            all_goals
              go_wp2_with fail
              go_meet
              obtain ⟨F', G', h⟩ := HPd.out.acted HBD.out HP5.out HK5.out HR6.out HK6.out
              exact ⟨rfl, F', G', _, h⟩
          | false =>
            cases k2 : (t.kind == 2) with
            | true =>
              go_upto_region 18 with fail
              go_region_held3 (fun W => W.cell? ⟨b6, 1, none⟩ = some (.int .i64 t.id) ∧ W.cell? ⟨b6, 2, none⟩ = some (.int .i64 t.prio))
                ((first | exact HA.out.two | exact HA5.out.two | exact HA6.out.two))
                (first
                  | (go_at_call 23; refine Calls.mono (Drop_all t.id HPd.out.pq hwf) ?_; rintro e w5 ⟨qs', z, rfl, hs, hp, hk5⟩; have HS := Lib.hid hs; have HP5 := Lib.hid hp; have HK5 := Lib.hid hk5; have HA5 := Lib.hid (HA.out.kept hk5 HNF.out.1); have HR5 := Lib.hid (HPd.out.rqAt hk5); clear hs hp hk5)
                  | (go_at_call 24; refine Calls.mono (rDrop_all t.id HR5.out HFA.out.1 HFA.out.2.1 HS.out) ?_; rintro e w6 ⟨rfl, hr, hk6⟩; have HR6 := Lib.hid hr; have HK6 := Lib.hid hk6; have HA6 := Lib.hid (HA5.out.kept hk6 HNF.out.2); clear hr hk6))
              all_goals
                go_wp2_with fail
                go_meet
                obtain ⟨F', G', h⟩ := HPd.out.acted HBD.out HP5.out HK5.out HR6.out HK6.out
                exact ⟨rfl, F', G', _, h⟩
            | false =>
              cases k4 : (t.kind == 4) with
              | true =>
                go_upto_region 20 with fail
                go_region_held3 (fun W => W.cell? ⟨b6, 1, none⟩ = some (.int .i64 t.id) ∧ W.cell? ⟨b6, 2, none⟩ = some (.int .i64 t.prio))
                  ((first | exact HA.out.two | exact HA5.out.two | exact HA6.out.two))
                  (first
                    | (go_at_call 25; refine Calls.mono (Raise_all t.id t.prio HPd.out.pq hwf) ?_; rintro e w5 ⟨qs', z, rfl, hs, hp, hk5⟩; have HS := Lib.hid hs; have HP5 := Lib.hid hp; have HK5 := Lib.hid hk5; have HA5 := Lib.hid (HA.out.kept hk5 HNF.out.1); have HR5 := Lib.hid (HPd.out.rqAt hk5); clear hs hp hk5)
                    | (go_at_call 26; refine Calls.mono (rRaise_all t.id t.prio HR5.out HFA.out.1 HFA.out.2.1 HS.out) ?_; rintro e w6 ⟨rfl, hr, hk6⟩; have HR6 := Lib.hid hr; have HK6 := Lib.hid hk6; have HA6 := Lib.hid (HA5.out.kept hk6 HNF.out.2); clear hr hk6))
                all_goals
                  go_wp2_with fail
                  go_meet
                  obtain ⟨F', G', h⟩ := HPd.out.acted HBD.out HP5.out HK5.out HR6.out HK6.out
                  exact ⟨rfl, F', G', _, h⟩
              | false =>
                by_cases hq : qs = []
                · subst hq
                  go_wp2_with (first
                    | (go_at_call 27; refine Calls.mono (Take_empty HP3.out.pq) ?_; rintro e w5 ⟨rfl, hp, hb5⟩; have HP5 := Lib.hid hp; have HB5 := Lib.hid hb5; have HB6 := Lib.hid (hb5.alloc hb5.size (.cells #[.int .i64 0, .int .i64 0] 30)); have hs5 := hb5.size; clear hp hb5)
                    | (go_at_call 16; refine Calls.mono (Row_all (HP3.out.rq.below HB6.out) (by simp) (by simp)) ?_; rintro e w7 ⟨os, vo, rfl, hp, -, ⟨ra, rcap, rfl, -⟩, hb7⟩; have ho : os = [] := hp.eq_nil; subst ho; have HB7 := Lib.hid hb7; have q0 : w7.cell? ⟨w5.heap.size, 0, none⟩ = some (.int .i64 0) := (hb7.cell (p := ⟨w5.heap.size, 0, none⟩) (by simp)).trans (by simp); have q1 : w7.cell? ⟨w5.heap.size, 1, none⟩ = some (.int .i64 0) := (hb7.cell (p := ⟨w5.heap.size, 1, none⟩) (by simp)).trans (by simp); have l7 : w5.heap.size < w7.heap.size := Nat.lt_of_lt_of_le (by simp) hb7.size; clear hp hb7))
                  go_meet
                  have h := HP3.out.step (HB6.out.trans (HB7.out.mono (by have := HB6.out.size; omega))) HBE.out
                  exact ⟨rfl, F, G, [], h.pq.next, h.rq, h.dis, h.lo, h.hi, h.below⟩
                · go_upto_region 14 with (first
                    | (go_at_call 27; refine Calls.mono (Take_all HP3.out.pq hq) ?_; rintro e w5 ⟨i, x, rfl, hx, hp, hk5⟩; have HX := Lib.hid hx; have HP5 := Lib.hid hp; have HK5 := Lib.hid hk5; have HR5 := Lib.hid (HP3.out.rqAt hk5); have hs5 := hk5.size; clear hx hp hk5)
                    | (go_at_call 16; refine Calls.mono (Row_all (HR5.out.below ((Below.refl w5.heap.size w5).alloc (Nat.le_refl _) (.cells #[.int .i64 x.prio, .int .i64 x.id] 30))) HFA.out.1 HFA.out.2.2) ?_; rintro e w7 ⟨os, vo, rfl, hp, hpw, ⟨ra, rcap, rfl, hv⟩, hb7⟩; have HX0 := Lib.hid (first_row hp hpw HX.out HFA.out.2.2); obtain ⟨rb, roff, rfl, rlt, r0, r1⟩ := valsCells hv HX0.out; obtain ⟨m, hm⟩ : ∃ m, os.length = m := ⟨_, rfl⟩; have hm0 : 0 < m := (by rw [← hm]; exact (List.getElem?_eq_some_iff.1 HX0.out).1); rw [hm]; have HB7 := Lib.hid hb7; have q0 : w7.cell? ⟨w5.heap.size, 0, none⟩ = some (.int .i64 x.prio) := (hb7.cell (p := ⟨w5.heap.size, 0, none⟩) (by simp)).trans (by simp); have q1 : w7.cell? ⟨w5.heap.size, 1, none⟩ = some (.int .i64 x.id) := (hb7.cell (p := ⟨w5.heap.size, 1, none⟩) (by simp)).trans (by simp); have l7 : w5.heap.size < w7.heap.size := Nat.lt_of_lt_of_le (by simp) hb7.size; simp only [Nat.zero_mul, Nat.add_zero] at r0 r1; have hm1 : ((m : Int) == 0) = false := (by simp; omega); clear hp hpw hv hb7 hm))
                  have x1 : (x.prio == x.prio) = true := by simp
                  have x2 : (x.id == x.id) = true := by simp
                  go_still_tail 12, (by kernel_rfl)
                  change wpList _ _ _ _ _ w7.drew
                  have hb57 : Below w5.heap.size w5 w7.drew := (((Below.refl w5.heap.size w5).alloc (Nat.le_refl _) (.cells #[.int .i64 x.prio, .int .i64 x.id] 30)).trans (HB7.out.mono (by simp))).drew
                  have HB57 := Lib.hid hb57
                  have HR7 := Lib.hid (HR5.out.below hb57)
                  have HDS : Hid (DropS qs x.id (qs.take i ++ qs.drop (i + 1)) 0) := Lib.hid (.inr ⟨i, x, HX.out.1, rfl, rfl, rfl⟩)
                  clear hb57
                  go_wp2_with (go_at_call 24; refine Calls.mono (rDrop_all x.id HR7.out HFA.out.1 HFA.out.2.1 HDS.out) ?_; rintro e w8 ⟨rfl, hr, hk8⟩; have HR8 := Lib.hid hr; have HK8 := Lib.hid hk8; clear hr hk8)
                  go_meet
                  obtain ⟨F', G', h⟩ := HP3.out.acted HBE.out (HP5.out.below HB57.out) (HK5.out.trans (Kept.below (F := F) HB57.out) (fun x hx => .inl hx)) HR8.out HK8.out
                  exact ⟨rfl, F', G', _, h⟩
        case rest =>
          obtain ⟨rfl, F', G', qs', h⟩ := hcut
          have HPN := Lib.hid h
          have HFN := Lib.hid h.pq.facts
          have hbc : B ≤ wc.heap.size := by have h1 := h.below.size; have := HB0.out; omega
          clear h
          go_wp2_with (first
            | (go_at_call 28; refine Calls.mono (List_all HPN.out.pq) ?_; rintro e w5 ⟨os, vo, rfl, hp, hpw, hi5, hb5⟩; have HO := Lib.hid (show os.Perm qs' ∧ os.Pairwise le from ⟨hp, hpw⟩); have HI5 := Lib.hid hi5; have HB5 := Lib.hid hb5; have HP5 := Lib.hid (HPN.out.step hb5 hbc); have hs5 := hb5.size; clear hp hpw hi5 hb5)
            | (go_at_call 16; refine Calls.mono (Row_all HP5.out.rq HFN.out.1 HFN.out.2.2) ?_; rintro e w6 ⟨os2, v2, rfl, p1, p2, hi6, hb6⟩; obtain rfl : os2 = os := row_uniq (p1.trans HO.out.1.symm) ((p1.map Th.born).nodup_iff.2 (nodup_of_lt HFN.out.2.2)) p2 HO.out.2; have HI6 := Lib.hid hi6; have HI56 := Lib.hid (HI5.out.below hb6 (Nat.le_refl _)); have HP6 := Lib.hid (HP5.out.step hb6 (by omega)); have hs6 := hb6.size; clear p1 p2 hi6 hb6)
            | (go_at_call 15; refine Calls.mono (eqItems os2 _ v2 _ (by rw [HO.out.1.length_eq]; have := HFN.out.1; omega) HI56.out HI6.out) ?_; rintro e w7 ⟨rfl, hb7⟩; have HP7 := Lib.hid (HP6.out.step hb7 (by omega)); clear hb7))
          go_roundw
          case rel => exact ⟨k + 1, F', G', qs', by omega, rfl, HP7⟩
          case measure => simp [intOf]; omega
      · go_wp2_with fail
        go_ret
        exact ⟨rfl, HB0.out ▸ HP.out.below⟩
end Go.Proofs.Ytfjoakhcgpckgaa
