/- Contract: the cheapest cost of all, by sets of jobs; the document's. -/
import Derived.Test.YtjmpfkolpgbebaaAssignMap
namespace Go.Proofs.Ytjmpfkolpgbebaa
open Go.ChangeShapes Go.WideShapes Go.ChangeAt Go.RowKit
open Go.Maps (Keyed)
set_option linter.unusedVariables false
open As
def CheapP (n : Nat) (C : Nat → Nat → Int) (w : World) (e : Ending) (w' : World) : Prop := ∃ m, e = .returned (.int .i64 m) ∧ IsLeast n C m ∧ Below w.heap.size w w'
/-- the two maps and the loop over the elder one -/
structure RW (gm gn r : Nat) (q : Nat) (D : DataW Unit) (left : Lit → Bool) (cnt : Nat) (q' : Nat) (g : Int → Int) (h' : Int → Bool) (c' : Nat) (w wr : World) : Prop where
  rng : wr.ranges Try.prog 3 (plainElem Try.prog 2) gm r q D left cnt
  nxt : BoxM gn q' g h' c' wr
  below : Below w.heap.size w wr
  l1 : w.heap.size ≤ gm
  l2 : w.heap.size ≤ gn
  l3 : w.heap.size ≤ r
  n1 : gm ≠ gn
  n2 : gm ≠ r
  n3 : gn ≠ r
theorem RW.kept {gm gn r q : Nat} {D : DataW Unit} {left : Lit → Bool} {cnt q' : Nat} {g : Int → Int} {h' : Int → Bool} {c' : Nat} {w wr w' : World} (h : RW gm gn r q D left cnt q' g h' c' w wr) {left' : Lit → Bool} {cnt' : Nat} (hr : w'.ranges Try.prog 3 (plainElem Try.prog 2) gm r q D left' cnt') (hg : wr.grownBy w' (some r)) : RW gm gn r q D left' cnt' q' g h' c' w w' :=
  ⟨hr, h.nxt.kept (hg.block gn h.nxt.lt (fun e => h.n3 (Option.some.inj e))), h.below.grown hg h.below.size (fun k hk => by cases hk; exact h.l3), h.l1, h.l2, h.l3, h.n1, h.n2, h.n3⟩
theorem RW.upd {gm gn r q : Nat} {D : DataW Unit} {left : Lit → Bool} {cnt q' : Nat} {g : Int → Int} {h' : Int → Bool} {c' : Nat} {w wr : World} (h : RW gm gn r q D left cnt q' g h' c' w wr) (hq : q' < maxLen) {id u : Int} (hw : (Lit.int .i64 id).wf = true) (hwu : (Lit.int .i64 u).wf = true) :
    ∃ w', (Instr.mapUpdate 47 (.map (some gn)) (.int .i64 id) (.int .i64 u)).run Try.prog wr = .ok () w' ∧ RW gm gn r q D left cnt (q' + 1) (setI g id u) (setB h' id) (if h' id then c' else c' + 1) w w' := by
  obtain ⟨w', h1, h2, h3⟩ := h.nxt.upd hq hw hwu
  exact ⟨w', h1, h.rng.kept h3 (fun e => h.n1 (Option.some.inj e)) (fun e => h.n3 (Option.some.inj e).symm), h2, h.below.grown h3 h.below.size (fun k hk => by cases hk; exact h.l2), h.l1, h.l2, h.l3, h.n1, h.n2, h.n3⟩
theorem wf64 {z : Int} (h : -9223372036854775808 ≤ z ∧ z ≤ 9223372036854775807) : (Lit.int .i64 z).wf = true := by
  simp only [Lit.wf, IntKind.min, IntKind.max, IntKind.signed, IntKind.bits, Bool.and_eq_true, decide_eq_true_eq, if_true]; omega
theorem As.Way.bound {n : Nat} {C : Nat → Nat → Int} (hF : Fine n C) {i s : Nat} {x : Int} (h : Way n C i s x) : i ≤ n → -(1000000000 * (i : Int)) ≤ x ∧ x ≤ 1000000000 * (i : Int) := by
  induction h with
  | zero => intro _; omega
  | @step i s x k hw hk hb ih =>
    intro hi
    have h1 := ih (by omega)
    have h2 := hF i k (by omega) hk
    omega
theorem bitT (s k : Nat) : (((s : Int) / 2 ^ k).tmod 2 == 1) = s.testBit k := by
  rw [Nat.testBit_eq_decide_div_mod_eq]
  have e : ((s : Int) / 2 ^ k) = ((s / 2 ^ k : Nat) : Int) := by simp
  rw [e]
  have e2 : (((s / 2 ^ k : Nat) : Int).tmod 2) = ((s / 2 ^ k % 2 : Nat) : Int) := by rw [Int.tmod_eq_emod_of_nonneg (Int.natCast_nonneg _)]; simp
  rw [e2]
  by_cases h : s / 2 ^ k % 2 = 1
  · rw [h]; rfl
  · have h0 : s / 2 ^ k % 2 = 0 := by omega
    rw [h0]; rfl
def dnL (n : Nat) (h : Int → Bool) (left : Lit → Bool) : Int → Nat → Prop := fun z k => h z = true ∧ left (.int .i64 z) = false ∧ k < n
set_option maxRecDepth 20000 in
set_option maxHeartbeats 8000000 in
theorem cheap_any (R : List (List Int)) (a : Option Addr) (n cap : Nat) (w : World) (hn : n = R.length) (hT : Tbl w a R) (hE : costsE R = 0) :
    Calls Try.prog 11 #[.slice a n cap] w fun e w' => CheapP n (cst R) w e w' := by
  obtain ⟨h12, hsq, hF⟩ := costsE_good hE
  rw [← hn] at h12 hsq hF
  have HN := Lib.hid hn
  have HSQ := Lib.hid hsq
  have HF := Lib.hid hF
  have HT := Lib.hid hT
  clear hn hsq hF hT hE
  have hmm := @run_makeMap Try.prog
  obtain ⟨W1, hup, hB1, hg1⟩ := (BoxM.made w).upd (by unfold maxLen; omega) (id := 0) (u := 0) (by decide) (by decide)
  have HB1 := Lib.hid hB1
  have HW1 : Hid (Below w.heap.size w W1) := Lib.hid (((Below.refl _ _).alloc (Nat.le_refl _) _).grown hg1 (by simp) (fun k hk => by cases hk; exact Nat.le_refl _))
  have HZ0 := Lib.hid (BestZ.zero n (cst R))
  clear hB1 hg1
  go_enter Try.func11, Try.ntmps11
  go_upto_region 2 with fail
  have H1a : w.heap.size ≤ w.heap.size := Nat.le_refl _
  obtain ⟨g0, hg0⟩ : ∃ g, w.heap.size = g := ⟨_, rfl⟩
  rw [hg0] at HB1 ⊢
  have HG0 := Lib.hid hg0
  clear hup hg0 H1a
  go_wp2_with fail
  go_loopg [3, 20] n (fun g x y wr => ∃ (j gm q c : Nat) (f : Int → Int) (h : Int → Bool), j + g = n ∧ y = .int .i64 (j : Int) ∧ x = .map (some gm) ∧ Hid (BoxM gm q f h c wr) ∧ Hid (BestZ n (cst R) j f h) ∧ Hid (Below w.heap.size w wr) ∧ Hid (w.heap.size ≤ gm) ∧ Hid (q ≤ 12 ^ j ∧ c ≤ 12 ^ j))
  case atStart => exact ⟨0, g0, _, _, _, _, by omega, rfl, rfl, HB1, HZ0, HW1, Lib.hid (by rw [HG0.out]; exact Nat.le_refl _), Lib.hid (by simp)⟩
  case round =>
    clear HB1 HZ0 HW1 HG0
    obtain ⟨j, gm, q, c, f, h, hj, rfl, rfl, HB, HZ, HW, HL, HQ⟩ := hrel
    by_cases hjn : j < n
    · obtain ⟨r, hr⟩ : ∃ r, R[j]? = some r := ⟨_, List.getElem?_eq_getElem (by have := HN.out; omega)⟩
      obtain ⟨b, off, ra, rc, rfl, hb0, c0, hrl, hrc, hv⟩ := HT.out.row hr
      have hrn : r.length = n := HSQ.out r (List.mem_of_getElem? hr)
      rw [hrn] at c0 hrl
      have c1 := (HW.out.cell (p := ⟨b, _, none⟩) hb0).trans c0
      have hb := Nat.lt_of_lt_of_le hb0 HW.out.size
      have HVB : Hid (∀ W, Below w.heap.size w W → Vals W ra (ints64 r)) := Lib.hid (fun W hW => hv.below hW (Nat.le_refl _))
      have HR := Lib.hid hr
      have HRN := Lib.hid hrn
      have hj1 : (0 : Int) ≤ (j : Int) := by omega
      have hj2 : (j : Int) < (n : Int) := by omega
      clear hr hv hrn c0 hb0
      go_upto_region 6 with fail
      obtain ⟨gn, hgn⟩ : ∃ g, wr.heap.size = g := ⟨_, rfl⟩
      obtain ⟨W2, hW2⟩ : ∃ W, W = wr.alloc (.map #[] 0) := ⟨_, rfl⟩
      have HB2 : Hid (BoxM gm q f h c W2) := Lib.hid (by rw [hW2]; exact HB.out.kept (Below.heap_alloc wr _ gm HB.out.lt))
      have HNX : Hid (BoxM gn 0 (fun _ => 0) (fun _ => false) 0 W2) := Lib.hid (by rw [hW2, ← hgn]; exact BoxM.made wr)
      have HW2 : Hid (Below w.heap.size w W2) := Lib.hid (by rw [hW2]; exact HW.out.alloc HW.out.size _)
      have HNE : Hid (gm < gn ∧ gn < W2.heap.size) := Lib.hid (by rw [hW2, ← hgn]; exact ⟨HB.out.lt, by simp⟩)
      rw [← hW2, hgn]
      clear hW2 hgn
      obtain ⟨D, ho, htd, hd, hh, hc⟩ := HB2.out
      have HD := Lib.hid hd
      have HH := Lib.hid hh
      have HC := Lib.hid hc
      obtain ⟨rr, hrr⟩ : ∃ g, W2.heap.size = g := ⟨_, rfl⟩
      go_wp2_with (first
        | (at_range; refine wpList_range_own _ rfl _ 47 rfl 3 2 keyInt Try.underlying47 _ gm q _ rfl ho ?_; intro w0 hrg0 hg0 hs0)
        | go_in)
      go_frame
      rw [hrr] at hrg0 ⊢
      have HRW : Hid (RW gm gn rr q D (Maps.has D) c 0 (fun _ => 0) (fun _ => false) 0 w w0) := Lib.hid (by
        have h1 := HNE.out
        have h2 := HL.out
        refine ⟨by rw [← hc]; exact hrg0, HNX.out.kept (hg0.block gn HNX.out.lt (by simp)), HW2.out.grown hg0 HW2.out.size (fun k hk => by cases hk), h2, by omega, by have := HW2.out.size; omega, by omega, by omega, by omega⟩)
      have HNZ : Hid (NextZ n (cst R) j f (dnL n h (Maps.has D)) (fun _ => 0) (fun _ => false)) := Lib.hid ((NextZ.zero n (cst R) j f).mono (fun z k hd => by
        have h1 := hd.1
        have h2 := hd.2.1
        rw [HH.out z, h1] at h2
        cases h2))
      have HLH : Hid (∀ z : Int, Maps.has D (.int .i64 z) = true → h z = true) := Lib.hid (fun z hz => by rw [← HH.out z]; exact hz)
      have HBW : Hid (Below W2.heap.size W2 w0) := Lib.hid ((Below.refl _ _).grown hg0 (Nat.le_refl _) (fun k hk => by cases hk))
      clear hrg0 hg0 hs0 ho htd hd hh hc HB2 HNX HNE HB HW HW2
      obtain ⟨gq', rfl⟩ : ∃ q, q = gk := ⟨_, rfl⟩
      go_loopg [7] c (fun gg _ wx => ∃ (left : Lit → Bool) (q' c' : Nat) (g : Int → Int) (h' : Int → Bool), Hid (RW gm gn rr q D left gg q' g h' c' w wx) ∧ Hid (NextZ n (cst R) j f (dnL n h left) g h') ∧ Hid (∀ z : Int, left (.int .i64 z) = true → h z = true) ∧ Hid (q' + gg * 12 ≤ c * 12 ∧ c' ≤ q'))
      case atStart => exact ⟨_, 0, 0, _, _, HRW, HNZ, HLH, Lib.hid (by omega)⟩
      case round =>
        clear HRW HNZ
        obtain ⟨left, q', c', g, h', HRW, HNZ, HLH, HQ2⟩ := hrel
        go_wp2_with (first
          | (at_next; refine wpList_next_ranges_ii _ rfl _ rfl 3 2 .i64 .i64 keyInt Try.underlying3 Try.underlying2 gm rr q _ _ _ rfl HRW.out.rng ?_ ?_)
          | go_in)
        · intro hc0 hl0
          have HL0 := Lib.hid hl0
          have HZN := Lib.hid (HNZ.out.fin HZ.out (fun s k hs hk => ⟨hs, HL0.out _, hk⟩))
          have HQ4 : Hid (q' ≤ 12 ^ (j + 1) ∧ c' ≤ 12 ^ (j + 1)) := Lib.hid (by
            have h1 := HQ2.out
            have h2 := HQ.out
            rw [Nat.pow_succ]
            omega)
          have HBN := Lib.hid HRW.out.nxt
          have HBE := Lib.hid HRW.out.below
          have HLE := Lib.hid HRW.out.l2
          clear hl0
          go_wp2_with fail
          go_roundg (n - (j + 1))
          case measure => omega
          case rel => exact ⟨j + 1, gn, q', c', g, h', by omega, by simp, rfl, HBN, HZN, HBE, HLE, HQ4⟩
        · intro x cc w1 cnt1 hwx hwc hlx hat hrg1 hlt hg1 hs1 hen
          have hxh := HLH.out x hlx
          obtain ⟨hx0, hxw⟩ := HZ.out.has x hxh
          obtain ⟨xn, rfl⟩ := Int.eq_ofNat_of_zero_le hx0
          rw [Int.toNat_natCast] at hxw
          have hcf : cc = f (xn : Int) := by
            have h1 := hat (.lit (.int .i64 0))
            rw [HD.out] at h1
            simpa using h1.symm
          subst hcf
          have hfb := hxw.bound HF.out (by omega)
          obtain ⟨fx, hfx⟩ : ∃ y, f (xn : Int) = y := ⟨_, rfl⟩
          rw [hfx] at hen hfb
          have HFX := Lib.hid hfx
          have HXW := Lib.hid hxw
          have HXH := Lib.hid hxh
          have hxl : xn < 2 ^ n := hxw.lt
          have hx12 : xn < 4096 := Nat.lt_of_lt_of_le hxl (by have := Nat.pow_le_pow_right (show 0 < 2 by omega) h12; omega)
          have HRW1 := Lib.hid (HRW.out.kept hrg1 hg1)
          have HLT := Lib.hid hlt
          obtain ⟨left1, hl1⟩ : ∃ l : Lit → Bool, (fun z => left z && !z.sameKey (.int .i64 (xn : Int))) = l := ⟨_, rfl⟩
          have HL1 : Hid (∀ z : Int, left1 (.int .i64 z) = (left (.int .i64 z) && !decide (z = (xn : Int)))) := Lib.hid (fun z => by rw [← hl1]; simp [Lit.sameKey])
          rw [hl1] at HRW1
          have HN1 : Hid (NextZ n (cst R) j f (fun z p => dnL n h left1 z p ∧ (z = (xn : Int) → p < 0)) g h') := Lib.hid (HNZ.out.mono (fun z p hd => by
            obtain ⟨⟨h1, h2, h3⟩, h4⟩ := hd
            refine ⟨h1, ?_, h3⟩
            rw [HL1.out z] at h2
            cases hl : left (.int .i64 z) with
            | false => rfl
            | true =>
              rw [hl] at h2
              have : z = (xn : Int) := by simpa using h2
              have := h4 this
              omega))
          have HQ1 : Hid (q' + cnt1 * 12 + 12 ≤ c * 12 + 0 ∧ c' ≤ q') := Lib.hid (by have h1 := HQ2.out; have h2 := HLT.out; omega)
          have HWF := Lib.hid hwx
          clear hl1 hlx hat hrg1 hg1 hs1 hlt hwx hwc hxh hxw hfx
          go_wp2_with fail
          obtain ⟨gq2, rfl⟩ : ∃ q, q = gk := ⟨_, rfl⟩
          go_loopg [34] n (fun gg y wx => ∃ (k q' c' : Nat) (g : Int → Int) (h' : Int → Bool), k + gg = n ∧ y = .int .i64 (k : Int) ∧ Hid (RW gm gn rr q D left1 cnt1 q' g h' c' w wx) ∧ Hid (NextZ n (cst R) j f (fun z p => dnL n h left1 z p ∧ (z = (xn : Int) → p < k)) g h') ∧ Hid (q' + cnt1 * 12 + 12 ≤ c * 12 + k ∧ c' ≤ q'))
          case atStart => exact ⟨0, q', c', g, h', by omega, rfl, HRW1, HN1, HQ1⟩
          case round =>
            clear HRW1 HN1 HQ1
            obtain ⟨k, q', c', g, h', hk, rfl, HRW, HNZ, HQ2⟩ := hrel
            by_cases hkn : k < n
            · obtain ⟨v, hv⟩ : ∃ v, r[k]? = some v := ⟨_, List.getElem?_eq_getElem (by have := HRN.out; omega)⟩
              obtain ⟨rb, ro, rfl, l0, c0⟩ := i64atR (HVB.out _ HRW.out.below) hv
              have HCV : Hid (cst R j k = v) := Lib.hid (by rw [cst, HR.out, Option.getD_some, List.getD_eq_getElem?_getD, hv]; rfl)
              have hk1 : (0 : Int) ≤ (k : Int) := by omega
              have hk2 : (k : Int) < (n : Int) := by omega
              clear hv
              cases hbt : xn.testBit k with
              | true =>
                have hbb : (((xn : Int) / 2 ^ k).tmod 2 == 1) = true := by rw [bitT, hbt]
                have HN2 : Hid (NextZ n (cst R) j f (fun z p => dnL n h left1 z p ∧ (z = (xn : Int) → p < k + 1)) g h') := Lib.hid (HNZ.out.skip xn k (fun z p hd => by
                  obtain ⟨h1, h2⟩ := hd
                  by_cases e : z = (xn : Int) ∧ p = k
                  · exact .inr e
                  · exact .inl ⟨h1, fun e2 => by have := h2 e2; have : ¬ p = k := fun e3 => e ⟨e2, e3⟩; omega⟩) (.inl hbt))
                clear hbt
                go_wp2_with fail
                go_roundg (n - (k + 1))
                case measure => omega
                case rel => exact ⟨k + 1, q', c', g, h', by omega, by simp, HRW, HN2, Lib.hid (by have := HQ2.out; omega)⟩
              | false =>
                have hbb : (((xn : Int) / 2 ^ k).tmod 2 == 1) = false := by rw [bitT, hbt]
                have HBT := Lib.hid hbt
                have hp11 : 2 ^ k ≤ 2048 := by
                  have := Nat.pow_le_pow_right (show 0 < 2 by omega) (show k ≤ 11 by omega)
                  omega
                obtain ⟨pk, hpk⟩ : ∃ p, 2 ^ k = p := ⟨_, rfl⟩
                have hpi : (2 : Int) ^ k = (pk : Int) := by rw [← hpk]; simp
                rw [hpk] at hp11
                obtain ⟨tt, htt⟩ : ∃ t, xn + pk = t := ⟨_, rfl⟩
                have hw1 : IntKind.i64.wrap ((2 : Int) ^ k) = (pk : Int) := by rw [hpi, IntWalk.i64_in _ (by omega)]
                have hw2 : IntKind.i64.wrap ((xn : Int) + (pk : Int)) = (tt : Int) := by rw [IntWalk.i64_in _ (by omega)]; omega
                have HTT : Hid (xn + 2 ^ k = tt) := Lib.hid (by rw [hpk, htt])
                have hlk := HRW.out.nxt.look (id := (tt : Int)) (wf64 (by omega))
                have htb : tt < 8192 := by omega
                clear hbt hpk hpi htt
                obtain ⟨gt, hgt⟩ : ∃ y, g (tt : Int) = y := ⟨_, rfl⟩
                obtain ⟨ht, hht⟩ : ∃ y, h' (tt : Int) = y := ⟨_, rfl⟩
                rw [hgt, hht] at hlk
                have hvb := HF.out j k hjn hkn
                rw [HCV.out] at hvb
                have hw3 : IntKind.i64.wrap (fx + v) = fx + v := IntWalk.i64_in _ (by omega)
                have HDN : Hid (∀ z p, (dnL n h left1 z p ∧ (z = (xn : Int) → p < k + 1)) → (dnL n h left1 z p ∧ (z = (xn : Int) → p < k)) ∨ (z = (xn : Int) ∧ p = k)) := Lib.hid (fun z p hd => by
                  obtain ⟨h1, h2⟩ := hd
                  by_cases e : z = (xn : Int) ∧ p = k
                  · exact .inr e
                  · exact .inl ⟨h1, fun e2 => by have := h2 e2; have : ¬ p = k := fun e3 => e ⟨e2, e3⟩; omega⟩)
                have hq9 : q' < maxLen := by
                  have h1 := HQ2.out
                  have h2 := HQ.out
                  have h3 := Nat.pow_le_pow_right (show 0 < 12 by omega) (show j ≤ 11 by omega)
                  unfold maxLen
                  omega
                obtain ⟨W5, hup, hRW5⟩ := HRW.out.upd hq9 (id := (tt : Int)) (u := fx + v) (wf64 (by omega)) (wf64 (by omega))
                have HRW5 := Lib.hid hRW5
                have HGT := Lib.hid hgt
                have HHT := Lib.hid hht
                clear hgt hht hRW5 hvb
                have HPUT : Hid ((ht = false ∨ fx + v < gt) → NextZ n (cst R) j f (fun z p => dnL n h left1 z p ∧ (z = (xn : Int) → p < k + 1)) (setI g (tt : Int) (fx + v)) (setB h' (tt : Int))) := Lib.hid (fun hl => by
                  have := HNZ.out.put xn k HDN.out HXW.out hkn HBT.out (by rw [HTT.out, HHT.out, HGT.out, HFX.out, HCV.out]; exact hl)
                  rwa [HTT.out, HFX.out, HCV.out] at this)
                cases ht with
                | false =>
                  have HN2 := Lib.hid (HPUT.out (.inl rfl))
                  go_wp2_with fail
                  go_roundg (n - (k + 1))
                  case measure => omega
                  case rel => exact ⟨k + 1, q' + 1, _, _, _, by omega, by simp, HRW5, HN2, Lib.hid (by have := HQ2.out; split <;> omega)⟩
                | true =>
                  by_cases hless : fx + v < gt
                  · have HN2 := Lib.hid (HPUT.out (.inr hless))
                    go_wp2_with fail
                    go_roundg (n - (k + 1))
                    case measure => omega
                    case rel => exact ⟨k + 1, q' + 1, _, _, _, by omega, by simp, HRW5, HN2, Lib.hid (by have := HQ2.out; split <;> omega)⟩
                  · have HN2 : Hid (NextZ n (cst R) j f (fun z p => dnL n h left1 z p ∧ (z = (xn : Int) → p < k + 1)) g h') := Lib.hid (HNZ.out.skip xn k HDN.out (.inr (by rw [HTT.out, HHT.out, HGT.out, HFX.out, HCV.out]; exact ⟨rfl, by omega⟩)))
                    go_wp2_with fail
                    go_roundg (n - (k + 1))
                    case measure => omega
                    case rel => exact ⟨k + 1, q', c', g, h', by omega, by simp, HRW, HN2, Lib.hid (by have := HQ2.out; omega)⟩
            · obtain rfl : k = n := by omega
              have HNE : Hid (NextZ k (cst R) j f (dnL k h left1) g h') := Lib.hid (HNZ.out.mono (fun z p hd => ⟨hd, fun _ => hd.2.2⟩))
              have HLN : Hid (∀ z : Int, left1 (.int .i64 z) = true → h z = true) := Lib.hid (fun z hz => by
                rw [HL1.out z] at hz
                exact HLH.out z (by simpa using (Bool.and_eq_true_iff.1 hz).1))
              have HQ3 : Hid (q' + cnt1 * 12 ≤ c * 12 ∧ c' ≤ q') := Lib.hid (by have := HQ2.out; omega)
              go_wp2_with fail
              go_roundg cnt1
              case measure => exact HLT.out
              case rel => exact ⟨left1, q', c', g, h', HRW, HNE, HLN, HQ3⟩
    · obtain rfl : j = n := by omega
      obtain ⟨D, ho, htd, hd, hh, hc⟩ := HB.out
      have HD := Lib.hid hd
      have HH := Lib.hid hh
      obtain ⟨rr, hrr⟩ : ∃ g, wr.heap.size = g := ⟨_, rfl⟩
      go_wp2_with (first
        | (at_range; refine wpList_range_own _ rfl _ 47 rfl 3 2 keyInt Try.underlying47 _ gm q _ rfl ho ?_; intro w0 hrg0 hg0 hs0)
        | go_in)
      go_frame
      rw [hrr] at hrg0 ⊢
      have HRG := Lib.hid hrg0
      have HBW : Hid (Below w.heap.size w w0) := Lib.hid (HW.out.grown hg0 HW.out.size (fun k hk => by cases hk))
      have HRR : Hid (w.heap.size ≤ rr) := Lib.hid (by rw [← hrr]; exact HW.out.size)
      clear hrg0 hg0 hs0 ho htd hd hh hc
      go_loopg [15] 1 (fun gg _ wx => gg = 1 ∧ Hid (wx.ranges Try.prog 3 (plainElem Try.prog 2) gm rr q D (Maps.has D) (Maps.size D)) ∧ Hid (Below w.heap.size w wx))
      case atStart => exact ⟨rfl, HRG, HBW⟩
      case round =>
        clear HRG HBW
        obtain ⟨_, HRG, HBW⟩ := hrel
        go_wp2_with (first
          | (at_next; refine wpList_next_ranges_ii _ rfl _ rfl 3 2 .i64 .i64 keyInt Try.underlying3 Try.underlying2 gm rr q _ _ _ rfl HRG.out ?_ ?_)
          | go_in)
        · intro hc0 hl0
          exfalso
          obtain ⟨m, hm⟩ := HZ.out.best.full
          have h1 : h ((2 ^ j - 1 : Nat) : Int) = true := by
            cases hx : h ((2 ^ j - 1 : Nat) : Int) with
            | true => rfl
            | false => rw [hx] at hm; cases hm
          rw [← HH.out, hl0] at h1
          cases h1
        · intro x cc w1 cnt1 hwx hwc hlx hat hrg1 hlt hg1 hs1 hen
          have hxh : h x = true := by rw [← HH.out x]; exact hlx
          obtain ⟨hx0, hxw⟩ := HZ.out.has x hxh
          obtain ⟨xn, rfl⟩ := Int.eq_ofNat_of_zero_le hx0
          have hcf : cc = f (xn : Int) := by
            have h1 := hat (.lit (.int .i64 0))
            rw [HD.out] at h1
            simpa using h1.symm
          have HLS : Hid (IsLeast j (cst R) cc) := Lib.hid (HZ.out.best.least (s := xn) (by rw [if_pos hxh, hcf]))
          have HB9 : Hid (Below w.heap.size w w1) := Lib.hid (HBW.out.grown hg1 HBW.out.size (fun k hk => by cases hk; exact HRR.out))
          clear hcf hlx hat hrg1 hg1 hs1 hlt hwx hwc hxh hxw
          go_wp2_with fail
          go_ret
          exact ⟨cc, rfl, HLS.out, HB9.out⟩
end Go.Proofs.Ytjmpfkolpgbebaa
