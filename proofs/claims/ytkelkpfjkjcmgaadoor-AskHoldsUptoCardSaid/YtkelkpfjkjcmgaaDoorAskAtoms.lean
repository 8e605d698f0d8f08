/- Contract: the atoms of an ask, as texts, each once, behind a row of texts; the program's. -/
import Derived.Test.YtkelkpfjkjcmgaaDoorAskTxt
import Derived.Test.YtkelkpfjkjcmgaaDoorAskIdx
import Derived.Test.YtkelkpfjkjcmgaaDoorAskNorm
namespace Go.Proofs.YtkelkpfjkjcmgaaDoor
open Go.ChangeShapes Go.WideShapes Go.ChangeAt Go.RowKit
set_option linter.unusedVariables false
open Tp
namespace Ask
mutual
/-- the atoms' texts, each as often as it stands -/
def leaves : Ask → List Bs
  | mk k a b n l => if k ≤ 3 then [txt (mk k a b n l)] else leavess l
def leavess : List Ask → List Bs
  | [] => []
  | x :: l => leaves x ++ leavess l
end
mutual
theorem leaves_len : ∀ x : Ask, (leaves x).length ≤ x.size
  | mk k a b n l => by
    rw [leaves, size]
    split
    · simp
    · have := leavess_len l; omega
theorem leavess_len : ∀ l : List Ask, (leavess l).length ≤ sizes l
  | [] => by simp [leavess]
  | x :: l => by
    rw [leavess, sizes, List.length_append]
    have := leaves_len x
    have := leavess_len l
    omega
end
theorem leavess_take {l : List Ask} {i : Nat} {x : Ask} (h : l[i]? = some x) : leavess (l.take (i + 1)) = leavess (l.take i) ++ leaves x := by
  induction l generalizing i with
  | nil => simp at h
  | cons y l ih =>
    cases i with
    | zero => simp at h; subst h; simp [leavess]
    | succ i =>
      have := ih (i := i) (by simpa using h)
      rw [List.take_succ_cons, List.take_succ_cons, leavess, leavess, this, List.append_assoc]
end Ask
/-- a text behind a row, if it is not in it -/
def addT (K : List Bs) (t : Bs) : List Bs := if t ∈ K then K else K ++ [t]
def addL (K ts : List Bs) : List Bs := ts.foldl addT K
theorem addL_append (K a b : List Bs) : addL K (a ++ b) = addL (addL K a) b := List.foldl_append ..
theorem addT_len (K : List Bs) (t : Bs) : (addT K t).length ≤ K.length + 1 := by unfold addT; split <;> simp
theorem addL_len (K ts : List Bs) : (addL K ts).length ≤ K.length + ts.length := by
  induction ts generalizing K with
  | nil => simp [addL]
  | cons t ts ih =>
    have h1 := ih (addT K t)
    have h2 := addT_len K t
    show (addL (addT K t) ts).length ≤ _
    simp only [List.length_cons]; omega
theorem Pow.same {w w' : World} (h : Pow w) (e : w'.heap[0]? = w.heap[0]?) : Pow w' := by
  unfold Pow Lib.TabIs World.var? at h ⊢
  rw [gPow] at h ⊢
  simp only [Option.bind_some] at h ⊢
  rw [e]
  exact h
theorem grownBy_below {w w' : World} {r : Option Nat} (hb : Below w.heap.size w w') : w.grownBy w' r := ⟨hb.os, hb.tape, hb.output, hb.size, fun k hk _ => hb.block k hk⟩
/-- a row of texts that a call grows: what it reads as, what stays, where it lies -/
structure RowR (B : Nat) (w w' : World) (r : Option Nat) (K : List Bs) (xv : Value) : Prop where
  own : w'.ownsRow B 9 1 xv K.length (txv K)
  saves : w.grownBy w' r
  new : ∀ k, xv.ownBlock = some k → r = some k ∨ w.heap.size ≤ k
theorem RowR.start {B : Nat} {w : World} {K : List Bs} {xv : Value} (h : w.ownsRow B 9 1 xv K.length (txv K)) : RowR B w w xv.ownBlock K xv := ⟨h, grownBy_below (Below.refl _ _), fun _ h => .inl h⟩
theorem grownBy_trans' {w w1 w2 : World} {r r1 : Option Nat} (h : w.grownBy w1 r) (h2 : w1.grownBy w2 r1) (hr : ∀ k, r1 = some k → r = some k ∨ w.heap.size ≤ k) : w.grownBy w2 r :=
  ⟨h2.os.trans h.os, h2.tape.trans h.tape, h2.output.trans h.output, Nat.le_trans h.size h2.size, fun k hk hkr => (h2.block k (Nat.lt_of_lt_of_le hk h.size) (fun e => by
    rcases hr k e.symm with h' | h'
    · exact hkr h'.symm
    · omega)).trans (h.block k hk hkr)⟩
theorem RowR.step {B : Nat} {w w1 w2 : World} {r : Option Nat} {K : List Bs} {xv : Value} (h : RowR B w w1 r K xv) (hb : Below w1.heap.size w1 w2) : RowR B w w2 r K xv :=
  ⟨ownsRow_below h.own hb, grownBy_trans' h.saves (grownBy_below (r := .none) hb) (fun _ h => by cases h), h.new⟩
theorem RowR.trans {B : Nat} {w w1 w2 : World} {r : Option Nat} {K K2 : List Bs} {xv xv2 : Value} (h : RowR B w w1 r K xv) (h2 : RowR B w1 w2 xv.ownBlock K2 xv2) : RowR B w w2 r K2 xv2 :=
  ⟨h2.own, grownBy_trans' h.saves h2.saves h.new, fun k hk => by
    rcases h2.new k hk with h' | h'
    · exact h.new k h'
    · exact .inr (Nat.le_trans h.saves.size h')⟩
theorem RowR.push {B g cap : Nat} {w w1 w2 : World} {r : Option Nat} {K : List Bs} {t : Bs} {xv : Value} (h : RowR B w w1 r K xv) (ho : w2.ownsRow B 9 1 (.slice (some ⟨g, 0, none⟩) (K.length + 1) cap) (K.length + 1) (txv K ++ [.string (bts t)])) (hg : w1.grownBy w2 xv.ownBlock) (hn : xv.ownBlock = some g ∨ w1.heap.size ≤ g) : RowR B w w2 r (K ++ [t]) (.slice (some ⟨g, 0, none⟩) (K.length + 1) cap) :=
  h.trans ⟨by rw [List.length_append, txv_push]; exact ho, hg, fun k hk => by
    obtain rfl : g = k := by simpa [Value.ownBlock] using hk
    exact hn⟩
theorem RowR.keep {B : Nat} {w w' : World} {r : Option Nat} {K : List Bs} {xv : Value} (h : RowR B w w' r K xv) {b : Nat} (hb : b < w.heap.size) (hr : some b ≠ r) : w'.heap[b]? = w.heap[b]? := h.saves.block b hb hr
theorem vals_own {w : World} {B m c n : Nat} {e : TypeId} {a : Option Addr} {xs : List Value} (h : w.ownsRow B e 1 (.slice a m c) n xs) : Vals w a xs := by
  obtain ⟨a', c', hu, hv⟩ := IsVals.own h
  cases hu
  exact hv
def AtomsQ (B : Nat) (w : World) (r : Option Nat) (K : List Bs) (e : Ending) (w' : World) : Prop := ∃ a m cap, e = .returned (.slice a m cap) ∧ m = K.length ∧ RowR B w w' r K (.slice a m cap)
theorem AtomsQ.mk' {B : Nat} {w w' : World} {r : Option Nat} {K : List Bs} {a : Option Addr} {m cap : Nat} (hm : m = K.length) (h : RowR B w w' r K (.slice a m cap)) : AtomsQ B w r K (.returned (.slice a m cap)) w' := ⟨a, m, cap, rfl, hm, h⟩
set_option maxRecDepth 20000 in
set_option maxHeartbeats 16000000 in
theorem atoms_all (B : Nat) : ∀ (N : Nat) (x : Ask) (v : Value) (w : World) (K : List Bs) (ga : Option Addr) (m gc : Nat), x.size ≤ N → x.err = 0 → m = K.length → K.length + x.size ≤ 1000 → B ≤ w.heap.size → 0 < B → Pow w → AskVP (fun b => b < B) w x v → w.ownsRow B 9 1 (.slice ga m gc) m (txv K) →
    Calls Tryd.prog 22 #[v, .slice ga m gc] w (AtomsQ B w (Value.ownBlock (.slice ga m gc)) (addL K x.leaves)) := by
  intro N
  induction N with
  | zero => intro x v w K ga m gc h; have := Ask.one_le x; omega
  | succ N ih =>
    intro x v w K ga m gc hN herr hm hbig hB hG hp hx hown
    have HIH := Lib.hid ih
    have hx2 := hx
    cases x with
    | mk k ka va nu l =>
    rw [AskVP] at hx
    obtain ⟨ad, n, cap, rfl, hn, hcap, hmax, u1, u2, hrow⟩ := hx
    obtain ⟨hb0, hes⟩ := Ask.err_zero herr
    obtain ⟨hk1, hk6, hlen, hrest⟩ := Ask.bad_zero hb0
    have hge := ownBlock_ge hown (Nat.le_refl _)
    have HGE := Lib.hid hge
    have hlt := fun g h => (hown.lt g h).2
    obtain ⟨r, hr⟩ : ∃ r, Value.ownBlock (.slice ga m gc) = r := ⟨_, rfl⟩
    have hR0 : RowR B w w r K (.slice ga m gc) := by rw [← hr]; exact RowR.start (by rw [← hm]; exact hown)
    have HRR := Lib.hid hr
    rw [hr] at HGE hlt ⊢
    have HLT : Hid (∀ g, r = some g → g < w.heap.size) := Lib.hid (fun g h => by have := (hown.lt g (hr.trans h)); omega)
    clear hlt hge
    rw [Ask.size] at hN hbig
    rw [← hn] at hlen
    have hm9 : m ≤ 1000 := by omega
    have HM := Lib.hid hm
    have HN := Lib.hid hn
    have HR := Lib.hid hrow
    have HES := Lib.hid hes
    have HX2 := Lib.hid hx2
    obtain ⟨a1, ha1⟩ : ∃ a, bts ka = a := ⟨_, rfl⟩
    obtain ⟨a2, ha2⟩ : ∃ a, bts va = a := ⟨_, rfl⟩
    rw [ha1, ha2] at HX2 ⊢
    obtain ⟨W0, hW0⟩ : ∃ W, W = w.alloc (.cells #[.int .i64 k, .string a1, .string a2, .int .i64 nu, .slice ad n cap] 24) := ⟨_, rfl⟩
    have hb9 : Below w.heap.size w W0 := by rw [hW0]; exact (Below.refl _ _).alloc (Nat.le_refl _) _
    have HB9 := Lib.hid hb9
    have hsz : W0.heap.size = w.heap.size + 1 := by rw [hW0]; simp
    obtain ⟨cx, hcx⟩ : ∃ c, c = w.heap.size := ⟨_, rfl⟩
    have d0 : W0.cell? ⟨cx, 0, none⟩ = some (.int .i64 k) := by rw [hW0, hcx]; simp
    have d1 : W0.cell? ⟨cx, 1, none⟩ = some (.string a1) := by rw [hW0, hcx]; simp
    have d2 : W0.cell? ⟨cx, 2, none⟩ = some (.string a2) := by rw [hW0, hcx]; simp
    have d3 : W0.cell? ⟨cx, 3, none⟩ = some (.int .i64 nu) := by rw [hW0, hcx]; simp
    have d4 : W0.cell? ⟨cx, 4, none⟩ = some (.slice ad n cap) := by rw [hW0, hcx]; simp
    have hcx0 : cx < W0.heap.size := by omega
    have hR1 := hR0.step hb9
    have HR1 := Lib.hid hR1
    have HCX : Hid (cx = w.heap.size) := Lib.hid hcx
    have HB := Lib.hid hB
    by_cases h3 : k ≤ 3
    · obtain rfl : n = 0 := by rw [hlen]; unfold Ask.inner; rw [if_neg (by omega), if_neg (by omega)]
      obtain ⟨t, ht⟩ : ∃ t, (Ask.mk k ka va nu l).txt = t := ⟨_, rfl⟩
      have HL : Hid ((Ask.mk k ka va nu l).leaves = [t]) := Lib.hid (by rw [Ask.leaves, if_pos h3, ht])
      have HC1 := Lib.hid (text_atom (Ask.mk k ka va nu l) _ W0 herr h3 (hp.below hb9) (AskV.below hb9 _ _ (AskVP.toV _ _ HX2.out)))
      rw [ht] at HC1
      obtain ⟨S, hS⟩ : ∃ S, bts t = S := ⟨_, rfl⟩
      have HS := Lib.hid hS
      rw [hS] at HC1
      rw [HL.out]
      have HADD : Hid (addL K [t] = addT K t) := Lib.hid rfl
      rw [HADD.out]
      clear ih herr hx2 hn hrow hb0 hes ha1 ha2 u1 u2 hlen hrest hcap hmax hown hR0 hR1 hr ht hS h3 hk1 hk6 hb9 hm hp hsz hB hG hN hbig
      go_enter Tryd.func22, Tryd.ntmps22
      go_upto_region 1 with fail
      rw [← hW0, ← hcx]
      clear hW0 hcx
      go_wp2_with fail
      refine Calls.mono HC1.out ?_
      rintro e' W1 ⟨rfl, hl⟩
      have HR2 := Lib.hid (HR1.out.step hl)
      have e4 := (hl.cell (p := ⟨cx, 4, none⟩) hcx0).trans d4
      have hcx1 : cx < W1.heap.size := Nat.lt_of_lt_of_le hcx0 hl.size
      clear hl d0 d1 d2 d3 d4 hcx0
      have HC2 := Lib.hid (containsK K m t ga gc W1 HM.out (vals_own HR2.out.own) (by omega))
      rw [HS.out] at HC2
      by_cases hin : t ∈ K
      · have HK : Hid (addT K t = K) := Lib.hid (by unfold addT; rw [if_pos hin])
        rw [show decide (t ∈ K) = true from by simpa using hin] at HC2
        clear hin
        go_wp2_with fail
        refine Calls.mono HC2.out ?_
        rintro e' W2 ⟨rfl, hl⟩
        have HR3 := Lib.hid (HR2.out.step hl)
        have f4 := (hl.cell (p := ⟨cx, 4, none⟩) hcx1).trans e4
        clear hl e4
        go_wp2_with fail
        go_loopg [1, 25] 0 (fun g x y wr => x = .slice ga m gc ∧ y = .int .i64 0 ∧ wr = W2)
        case atStart => exact ⟨rfl, rfl, rfl⟩
        case round =>
          obtain ⟨rfl, rfl, rfl⟩ := hrel
          go_wp2_with fail
          go_ret
          rw [HK.out]
          exact AtomsQ.mk' HM.out HR3.out
      · have HK : Hid (addT K t = K ++ [t]) := Lib.hid (by unfold addT; rw [if_neg hin])
        rw [show decide (t ∈ K) = false from by simpa using hin] at HC2
        clear hin
        go_wp2_with fail
        refine Calls.mono HC2.out ?_
        rintro e' W2 ⟨rfl, hl⟩
        have HR3 := Lib.hid (HR2.out.step hl)
        have f4 := (hl.cell (p := ⟨cx, 4, none⟩) hcx1).trans e4
        have hcx2 : cx < W2.heap.size := Nat.lt_of_lt_of_le hcx1 hl.size
        clear hl e4
        have hszw : B ≤ W2.heap.size := by have := HR3.out.saves.size; have := HB.out; omega
        have hnr : some cx ≠ Value.ownBlock (.slice ga m gc) := fun e => by have := HLT.out cx (HRR.out.symm.trans e.symm); have := HCX.out; omega
        have HNR := Lib.hid hnr
        clear hnr
        have HOWN : Hid (W2.ownsRow B 9 1 (.slice ga m gc) m (txv K)) := Lib.hid (by have := HR3.out.own; rw [← HM.out] at this; exact this)
        go_wp2_with (at_builtin; go_loud (refine wpList_push W2 (by rfl) _ _ 41 (by rfl) B 9 (.string ⟨#[]⟩) 16 Tryd.underlying41 infoStr (by rfl) (.slice ga m gc) m (txv K) (.string S) _ rfl (by rfl) HOWN.out (by rfl) (by rfl) (by unfold maxLen; omega) (by omega) hszw ?_; intro gg cap3 w5 hown hgrow hgb hgl2; have HR5 : Hid (RowR B w w5 r (K ++ [t]) (.slice (some ⟨gg, 0, none⟩) (m + 1) cap3)) := Lib.hid (by have h := HR3.out.push (t := t) (g := gg) (cap := cap3) (by rw [← HM.out, HS.out]; exact hown) hgrow hgb; rw [← HM.out] at h; exact h); have g4 : w5.cell? ⟨cx, 4, none⟩ = some (.slice ad 0 cap) := (cell_of_block (p := ⟨cx, 4, none⟩) (hgrow.block cx hcx2 HNR.out)).trans f4; clear hown hgrow hgb))
        go_loopg [1, 25] 0 (fun g x y wr => x = .slice (some ⟨gg, 0, none⟩) (m + 1) cap3 ∧ y = .int .i64 0 ∧ wr = w5)
        case atStart => exact ⟨rfl, rfl, rfl⟩
        case round =>
          obtain ⟨rfl, rfl, rfl⟩ := hrel
          go_wp2_with fail
          go_ret
          rw [HK.out]
          exact AtomsQ.mk' (by rw [List.length_append, ← HM.out]; rfl) HR5.out
    · have hn0 : 0 < n := by rw [hlen]; unfold Ask.inner; split <;> (try split) <;> omega
      have hn1 : ((n : Int) == 0) = false := by simp; omega
      have hn2 : n ≤ 2 := by rw [hlen]; unfold Ask.inner; split <;> (try split) <;> omega
      have HL : Hid ((Ask.mk k ka va nu l).leaves = Ask.leavess l) := Lib.hid (by rw [Ask.leaves, if_neg h3])
      rw [HL.out]
      have HP := Lib.hid hp
      have HBIG := Lib.hid hbig
      have HN9 := Lib.hid hN
      have HGB := Lib.hid hG
      clear ih herr hx2 hn hrow hb0 hes ha1 ha2 u1 u2 hlen hrest hcap hown hR0 hR1 hr h3 hk1 hk6 hb9 hm hp hsz hB hG hN hbig
      go_enter Tryd.func22, Tryd.ntmps22
      go_upto_region 1 with fail
      rw [← hW0, ← hcx]
      clear hW0 hcx
      go_wp2_with fail
      go_loopg [1, 25] n (fun g x y wr => ∃ (j : Nat) (xa : Option Addr) (xm xc : Nat), j + g = n ∧ y = .int .i64 (j : Int) ∧ x = .slice xa xm xc ∧ Hid (xm = (addL K (Ask.leavess (l.take j))).length ∧ RowR B w wr r (addL K (Ask.leavess (l.take j))) (.slice xa xm xc)))
      case atStart => exact ⟨0, ga, m, gc, by omega, rfl, rfl, Lib.hid ⟨HM.out, HR1.out⟩⟩
      case round =>
        obtain ⟨j, xa, xm, xc, hj, rfl, rfl, HRW⟩ := hrel
        by_cases hjn : j < n
        · obtain ⟨y, hy⟩ : ∃ y, l[j]? = some y := ⟨_, List.getElem?_eq_getElem (by rw [← HN.out]; exact hjn)⟩
          obtain ⟨b, off, rfl, hb, hbB, hat⟩ := HR.out (by omega)
          have hkeep : ∀ b, b < B → wr.heap[b]? = w.heap[b]? := fun b hb => HRW.out.2.keep (by have := HB.out; omega) (fun e => by have := HGE.out b e.symm; omega)
          have hat1 : AsksVP (fun b => b < B) wr l b off := AsksVP.stays (fun _ h => h) HRW.out.2.saves.size (fun b h _ => hkeep b h) l b off hbB hb hat
          obtain ⟨k0, k1, k2, k3, ad', len', cap', c0, c1, c2, c3, c4, hyv⟩ := hat1.get' hy
          have hbr : b < wr.heap.size := Nat.lt_of_lt_of_le hb HRW.out.2.saves.size
          have hj1 : (0 : Int) ≤ (j : Int) := by omega
          have hj2 : (j : Int) < (n : Int) := by omega
          obtain ⟨wx, hwx⟩ : ∃ wx, wx = wr.alloc (.cells #[.int .i64 k0, .string k1, .string k2, .int .i64 k3, .slice ad' len' cap'] 24) := ⟨_, rfl⟩
          have hbx : Below wr.heap.size wr wx := by rw [hwx]; exact (Below.refl _ _).alloc (Nat.le_refl _) _
          have HRX := Lib.hid (HRW.out.2.step hbx)
          have HXM := Lib.hid HRW.out.1
          have HC := Lib.hid (HIH.out y (.agg #[.int .i64 k0, .string k1, .string k2, .int .i64 k3, .slice ad' len' cap']) wx (addL K (Ask.leavess (l.take j))) xa xm xc (by have := Ask.sizes_at hy; have := HN9.out; omega) (Ask.errs_at HES.out hy) HXM.out
            (by
              have h1 := addL_len K (Ask.leavess (l.take j))
              have h2 := Ask.leavess_len (l.take j)
              have h3 := Ask.sizes_take hy
              have h4 := Ask.sizes_take_le l (j + 1)
              have h5 := HBIG.out
              omega)
            (by have := HRX.out.saves.size; have := HB.out; omega) HGB.out
            ((HP.out.same (hkeep _ HGB.out)).below hbx)
            (AskVP.stays (fun _ h => h) hbx.size (fun b _ h => hbx.block b h) _ _ hyv)
            (by have := HRX.out.own; rw [← HXM.out] at this; exact this))
          have HSUC : Hid (addL (addL K (Ask.leavess (l.take j))) y.leaves = addL K (Ask.leavess (l.take (j + 1)))) := Lib.hid (by rw [Ask.leavess_take hy, addL_append])
          rw [HSUC.out] at HC
          clear hat hat1 hy hyv hkeep hbx
          go_wp2_with fail
          rw [← hwx]
          refine Calls.mono HC.out ?_
          rintro e' W3 ⟨xa', xm', xc', rfl, hxm', hrow'⟩
          have HROW := Lib.hid (HRX.out.trans hrow')
          have HXM' := Lib.hid hxm'
          clear hxm' hrow'
          go_wp2_with fail
          go_roundg (n - (j + 1))
          case measure => omega
          case rel => exact ⟨j + 1, xa', xm', xc', by omega, by simp, rfl, Lib.hid ⟨HXM'.out, HROW.out⟩⟩
        · obtain rfl : j = n := by omega
          have HRF := HRW.out
          rw [HN.out, List.take_length] at HRF
          have HRG := Lib.hid HRF
          clear HRF
          go_wp2_with fail
          go_ret
          exact AtomsQ.mk' HRG.out.1 HRG.out.2
end Go.Proofs.YtkelkpfjkjcmgaaDoor
