/- Contract: Fit: the hosts that fit; the program's. -/
import Derived.Test.YtnfmopmcckgfdaaHostFitM
import Derived.Test.YtnfmopmcckgfdaaHostTake
namespace Go.Proofs.Ytnfmopmcckgfdaa
open Go.ChangeShapes Go.WideShapes Go.ChangeAt Go.RowKit
set_option linter.unusedVariables false
open Tp
theorem infoI : (Try.prog.info? 3).map (fun i => (i.zero, i.size, i.bytes)) = some (some (.int .i64 0), 1, 8) := by kernel_rfl
theorem askForm {w : World} {x : Ask} {v : Value} (h : AskV w x v) : ∃ (k0 : Int) (k1 k2 : ByteArray) (k3 : Int) (ad : Option Addr) (len cap : Nat), v = .agg #[.int .i64 k0, .string k1, .string k2, .int .i64 k3, .slice ad len cap] := by
  cases x with
  | mk k ka va nu l =>
    rw [AskV] at h
    obtain ⟨ad, n, cap, rfl, _⟩ := h
    exact ⟨_, _, _, _, _, _, _, rfl⟩
/-- the two boxes of the call: the ask, the amount -/
structure Box2 (w : World) (c : Nat) (k : Int) (a1 a2 : ByteArray) (nu : Int) (ad : Option Addr) (m cp : Nat) (A : Amt) : Prop where
  x0 : w.cell? ⟨c, 0, none⟩ = some (.int .i64 k)
  x1 : w.cell? ⟨c, 1, none⟩ = some (.string a1)
  x2 : w.cell? ⟨c, 2, none⟩ = some (.string a2)
  x3 : w.cell? ⟨c, 3, none⟩ = some (.int .i64 nu)
  x4 : w.cell? ⟨c, 4, none⟩ = some (.slice ad m cp)
  am : AmtAt w (c + 1) A
theorem Box2.below {w w' : World} {c : Nat} {k : Int} {a1 a2 : ByteArray} {nu : Int} {ad : Option Addr} {m cp : Nat} {A : Amt} (h : Box2 w c k a1 a2 nu ad m cp A) (hb : Below w.heap.size w w') : Box2 w' c k a1 a2 nu ad m cp A := by
  have hlt : c < w.heap.size := by have := h.am.lt; omega
  exact ⟨(hb.cell (p := ⟨c, 0, none⟩) hlt).trans h.x0, (hb.cell (p := ⟨c, 1, none⟩) hlt).trans h.x1, (hb.cell (p := ⟨c, 2, none⟩) hlt).trans h.x2, (hb.cell (p := ⟨c, 3, none⟩) hlt).trans h.x3, (hb.cell (p := ⟨c, 4, none⟩) hlt).trans h.x4, h.am.below hb⟩
theorem Box2.made {W0 w : World} {c : Nat} {k : Int} {a1 a2 : ByteArray} {nu : Int} {ad : Option Addr} {m cp : Nat} {A : Amt} (hc : c = w.heap.size) (hW : W0 = (w.alloc (.cells #[.int .i64 k, .string a1, .string a2, .int .i64 nu, .slice ad m cp] 25)).alloc (.cells #[.int .i64 A.cpu, .int .i64 A.mem, .int .i64 A.gpu] 27)) : Box2 W0 c k a1 a2 nu ad m cp A := by
  obtain ⟨W, hW1⟩ : ∃ W, W = w.alloc (.cells #[.int .i64 k, .string a1, .string a2, .int .i64 nu, .slice ad m cp] 25) := ⟨_, rfl⟩
  rw [← hW1] at hW
  have hsz : W.heap.size = c + 1 := by rw [hW1, hc]; simp
  have hb : Below W.heap.size W W0 := by rw [hW]; exact (Below.refl _ _).alloc (Nat.le_refl _) _
  have hlt : c < W.heap.size := by omega
  have h0 : ∀ (i : Nat) (v : Value), (#[Value.int .i64 k, .string a1, .string a2, .int .i64 nu, .slice ad m cp])[i]? = some v → W0.cell? ⟨c, i, none⟩ = some v := fun i v hi => (hb.cell (p := ⟨c, i, none⟩) hlt).trans (by rw [hW1]; exact (top_cell _ _ _ _ _ hc).trans hi)
  exact ⟨h0 0 _ rfl, h0 1 _ rfl, h0 2 _ rfl, h0 3 _ rfl, h0 4 _ rfl, amtBox hsz.symm hW⟩
def FitQ (w : World) (x : Ask) (A : Amt) (L : List Hst) (e : Ending) (w' : World) : Prop := ∃ v, e = .returned (.tuple #[v, .int .i64 (fitE x A L)]) ∧ w'.ownsRow w.heap.size 3 1 v (fitR x A L).length (nats (fitR x A L)) ∧ Below w.heap.size w w'
theorem fit_bad {w w' : World} {x : Ask} {A : Amt} {L : List Hst} {E : Int} (hE : fitE x A L = E) (h : E ≠ 0) (hb : Below w.heap.size w w') : FitQ w x A L (.returned (.tuple #[.slice none 0 0, .int .i64 E])) w' := by
  have : fitR x A L = [] := by unfold fitR; rw [if_neg (by rw [hE]; exact h)]
  exact ⟨_, by rw [hE], by rw [this]; exact ⟨rfl, .inl ⟨rfl, rfl⟩⟩, hb⟩
set_option maxRecDepth 20000 in
set_option maxHeartbeats 16000000 in
theorem Fit_any (x : Ask) (A : Amt) (L : List Hst) (a : Option Addr) (n cap : Nat) (vx : Value) (w : World) (hn : n = L.length) (hmax : n ≤ 9223372036854775807) (hs : x.size ≤ 1000000000) (hL : Hosts w a L) (hx : AskV w x vx) :
    Calls Try.prog 9 #[.slice a n cap, vx, A.v] w fun e w' => FitQ w x A L e w' := by
  obtain ⟨k, a1, a2, nu, ad, m, cp, rfl⟩ := askForm hx
  obtain ⟨W0, hW0⟩ : ∃ W, W = (w.alloc (.cells #[.int .i64 k, .string a1, .string a2, .int .i64 nu, .slice ad m cp] 25)).alloc (.cells #[.int .i64 A.cpu, .int .i64 A.mem, .int .i64 A.gpu] 27) := ⟨_, rfl⟩
  obtain ⟨c, hc⟩ : ∃ c, c = w.heap.size := ⟨_, rfl⟩
  have HC0 := Lib.hid hc
  have HX2 := Lib.hid (Box2.made hc hW0)
  have hb9 : Below w.heap.size w W0 := by rw [hW0]; exact ((Below.refl _ _).alloc (Nat.le_refl _) _).alloc (by simp) _
  have HB0 := Lib.hid hb9
  have HHC := Lib.hid (hCheck_any L a n cap W0 hn hmax (hL.below hb9))
  have HXV := Lib.hid (AskV.below hb9 _ _ hx)
  have HN := Lib.hid hn
  have HL := Lib.hid (hL.below hb9)
  have HS := Lib.hid hs
  obtain ⟨E, hE⟩ : ∃ E, hostsE L = E := ⟨_, rfl⟩
  rw [hE] at HHC
  have HE := Lib.hid hE
  obtain ⟨E2, hE2⟩ : ∃ E, x.fault = E := ⟨_, rfl⟩
  have HE2 := Lib.hid hE2
  obtain ⟨E3, hE3⟩ : ∃ E, amtE A = E := ⟨_, rfl⟩
  have HE3 := Lib.hid hE3
  have HV : Hid (fitE x A L = if E ≠ 0 then E else if E2 ≠ 0 then E2 else E3) := Lib.hid (by unfold fitE; rw [hE, hE2, hE3])
  obtain ⟨x0, x1, x2, x3, x4, _⟩ := HX2.out
  unfold Amt.v
  clear hn hL hs hx hb9 hE hE2 hE3 x0 x1 x2 x3 x4
  by_cases he : E = 0
  · by_cases he2 : E2 = 0
    · by_cases he3 : E3 = 0
      · have HZ : Hid (fitE x A L = 0) := Lib.hid (by rw [HV.out, he, he2, he3]; rfl)
        have HR : Hid (fitR x A L = fitL x A L n) := Lib.hid (by unfold fitR; rw [if_pos HZ.out, HN.out])
        have HA := Lib.hid (amtE_ok (HE3.out.trans he3))
        have HEA : Hid (∀ (i : Nat) (h : Hst), L[i]? = some h → h.has.ok = true ∧ h.used.ok = true ∧ h.used.le h.has = true) := Lib.hid (fun i h hx => hosts_each (HE.out.trans he) hx)
        have HFT := Lib.hid (HE2.out.trans he2)
        have HN30 := Lib.hid ((labels_few (HE.out.trans he)).1)
        subst he he2 he3
        go_enter Try.func9, Try.ntmps9
        go_upto_region 1 with fail
        rw [← hW0, ← hc]
        clear hW0 hc
        go_wp2_with fail
        refine Calls.mono HHC.out ?_
        rintro e' W1 ⟨rfl, hl⟩
        have HB1 := Lib.hid (HB0.out.trans (hl.mono HB0.out.size))
        have HX1 := Lib.hid (HX2.out.below hl)
        have HL1 := Lib.hid (HL.out.below hl)
        have HV1 := Lib.hid (AskV.below hl _ _ HXV.out)
        obtain ⟨x0, x1, x2, x3, x4, _⟩ := HX1.out
        have HAC := Lib.hid (askCheck_any x _ W1 HS.out HV1.out)
        rw [HE2.out] at HAC
        clear hl
        go_wp2_with fail
        refine Calls.mono HAC.out ?_
        rintro e' W2 ⟨rfl, hl⟩
        have HB2 := Lib.hid (HB1.out.trans (hl.mono HB1.out.size))
        have HX2 := Lib.hid (HX1.out.below hl)
        have HL2 := Lib.hid (HL1.out.below hl)
        have HV2 := Lib.hid (AskV.below hl _ _ HV1.out)
        clear x0 x1 x2 x3 x4
        obtain ⟨x0, x1, x2, x3, x4, y0, y1, y2, _⟩ := HX2.out
        have HNC := Lib.hid (Check_any A.cpu A.mem A.gpu W2)
        rw [show needE A.cpu A.mem A.gpu = 0 from HE3.out] at HNC
        clear hl
        go_wp2_with fail
        refine Calls.mono HNC.out ?_
        rintro e' W3 ⟨rfl, hl⟩
        have HB3 := Lib.hid (HB2.out.trans (hl.mono HB2.out.size))
        have HX3 := Lib.hid (HX2.out.below hl)
        have HL3 := Lib.hid (HL2.out.below hl)
        have HV3 := Lib.hid (AskV.below hl _ _ HV2.out)
        clear x0 x1 x2 x3 x4 y0 y1 y2 hl HX1 HX2 HL1 HL2 HV1 HV2 HB0 HB1 HB2 HL HHC HAC HNC
        go_wp2_with fail
        go_loopg [11, 37] n (fun g u y wr => ∃ j : Nat, j + g = n ∧ y = .int .i64 (j : Int) ∧ Hid (wr.ownsRow W3.heap.size 3 1 u (fitL x A L j).length (nats (fitL x A L j))) ∧ Hid (Below W3.heap.size W3 wr))
        case atStart => exact ⟨0, by omega, rfl, Lib.hid ⟨rfl, .inl ⟨rfl, rfl⟩⟩, Lib.hid (Below.refl _ _)⟩
        case round =>
          obtain ⟨j, hj, rfl, HO, HB⟩ := hrel
          by_cases hjn : j < n
          · obtain ⟨h, hx⟩ : ∃ h, L[j]? = some h := ⟨_, List.getElem?_eq_getElem (by rw [← HN.out]; exact hjn)⟩
            have HX := Lib.hid hx
            obtain ⟨b, off, rfl, hb, hat⟩ := (HL3.out.below HB.out) (by rw [← HN.out]; omega)
            obtain ⟨la, lc, hhv, c0, c1, c2, c3, c4, c5, c6, c7⟩ := (hat j h hx).val
            have HHV := Lib.hid hhv
            obtain ⟨nm, hnm⟩ : ∃ s, bts h.name = s := ⟨_, rfl⟩
            obtain ⟨lm, hlm⟩ : ∃ s, h.labels.length = s := ⟨_, rfl⟩
            rw [hnm] at c0 HHV
            rw [hlm] at c1 HHV
            have HJ := Lib.hid hj
            have hj1 : (0 : Int) ≤ (j : Int) := by omega
            have hj2 : (j : Int) < (n : Int) := by omega
            obtain ⟨Q1, hQ1⟩ : ∃ W, W = wr.alloc (.cells #[.string nm, .slice la lm lc, .int .i64 h.has.cpu, .int .i64 h.has.mem, .int .i64 h.has.gpu, .int .i64 h.used.cpu, .int .i64 h.used.mem, .int .i64 h.used.gpu] 30) := ⟨_, rfl⟩
            obtain ⟨ch, hch⟩ : ∃ c, c = wr.heap.size := ⟨_, rfl⟩
            have hl1 : Below wr.heap.size wr Q1 := by rw [hQ1]; exact (Below.refl _ _).alloc (Nat.le_refl _) _
            have HBQ1 := Lib.hid (HB.out.trans (hl1.mono HB.out.size))
            have HOQ1 := Lib.hid (ownsRow_below HO.out hl1)
            have HHV1 := Lib.hid (HHV.out.below hl1)
            have d0 : Q1.cell? ⟨ch, 0, none⟩ = some (.string nm) := by rw [hQ1]; exact (top_cell _ _ _ _ _ hch).trans rfl
            have d1 : Q1.cell? ⟨ch, 1, none⟩ = some (.slice la lm lc) := by rw [hQ1]; exact (top_cell _ _ _ _ _ hch).trans rfl
            have d2 : Q1.cell? ⟨ch, 2, none⟩ = some (.int .i64 h.has.cpu) := by rw [hQ1]; exact (top_cell _ _ _ _ _ hch).trans rfl
            have d3 : Q1.cell? ⟨ch, 3, none⟩ = some (.int .i64 h.has.mem) := by rw [hQ1]; exact (top_cell _ _ _ _ _ hch).trans rfl
            have d4 : Q1.cell? ⟨ch, 4, none⟩ = some (.int .i64 h.has.gpu) := by rw [hQ1]; exact (top_cell _ _ _ _ _ hch).trans rfl
            have d5 : Q1.cell? ⟨ch, 5, none⟩ = some (.int .i64 h.used.cpu) := by rw [hQ1]; exact (top_cell _ _ _ _ _ hch).trans rfl
            have d6 : Q1.cell? ⟨ch, 6, none⟩ = some (.int .i64 h.used.mem) := by rw [hQ1]; exact (top_cell _ _ _ _ _ hch).trans rfl
            have d7 : Q1.cell? ⟨ch, 7, none⟩ = some (.int .i64 h.used.gpu) := by rw [hQ1]; exact (top_cell _ _ _ _ _ hch).trans rfl
            have hd : ch < Q1.heap.size := by rw [hQ1, hch]; exact top_lt _ _
            obtain ⟨ok1, ok2, ok3⟩ := HEA.out j h hx
            have HSUB : Hid (∀ W, Calls Try.prog 21 #[.agg #[.int .i64 h.has.cpu, .int .i64 h.has.mem, .int .i64 h.has.gpu], .agg #[.int .i64 h.used.cpu, .int .i64 h.used.mem, .int .i64 h.used.gpu]] W fun e w' => e = .returned (.tuple #[.agg #[.int .i64 h.left.cpu, .int .i64 h.left.mem, .int .i64 h.left.gpu], .int .i64 0]) ∧ Below W.heap.size W w') := Lib.hid (fun W => by
              have h9 := nSub_any h.has.cpu h.has.mem h.has.gpu h.used.cpu h.used.mem h.used.gpu W
              have h8 := left_sub ok1 ok2 ok3
              have h5 : subE h.has.cpu h.has.mem h.has.gpu h.used.cpu h.used.mem h.used.gpu = 0 := h8.2
              have h6 := congrArg Amt.cpu h8.1
              have h7 := congrArg Amt.mem h8.1
              have h4 := congrArg Amt.gpu h8.1
              unfold Amt.sub at h6 h7 h4
              simp only at h6 h7 h4
              rw [h5, h6, h7, h4] at h9
              exact h9)
            have HFB := Lib.hid (fits_left HA.out ok1 ok2 ok3)
            have HFITS : Hid (∀ W, Calls Try.prog 30 #[.agg #[.int .i64 A.cpu, .int .i64 A.mem, .int .i64 A.gpu], .agg #[.int .i64 h.left.cpu, .int .i64 h.left.mem, .int .i64 h.left.gpu]] W fun e w' => e = .returned (.tuple #[.bool (A.le h.left), .int .i64 0]) ∧ Below W.heap.size W w') := Lib.hid (fun W => by
              have h9 := Fits_any A.cpu A.mem A.gpu h.left.cpu h.left.mem h.left.gpu W
              rw [HFB.out, Bool.true_and, show bothE A.cpu A.mem A.gpu h.left.cpu h.left.mem h.left.gpu = 0 from by unfold bothE; rw [if_pos HFB.out]] at h9
              exact h9)
            have HHIT : Hid (hit x A h = (x.ev (atomB h) && A.le h.left)) := Lib.hid rfl
            have HHO : Hid (x.holds h = x.ev (atomB h)) := Lib.hid (by unfold Ask.holds; rw [if_pos HFT.out])
            obtain ⟨b1, hb1⟩ : ∃ b, x.ev (atomB h) = b := ⟨_, rfl⟩
            obtain ⟨b2, hb2⟩ : ∃ b, A.le h.left = b := ⟨_, rfl⟩
            rw [hb2] at HFITS HHIT
            rw [hb1] at HHIT HHO
            obtain ⟨l0, hl0⟩ : ∃ q, h.left.cpu = q := ⟨_, rfl⟩
            obtain ⟨l1, hl1'⟩ : ∃ q, h.left.mem = q := ⟨_, rfl⟩
            obtain ⟨l2, hl2⟩ : ∃ q, h.left.gpu = q := ⟨_, rfl⟩
            rw [hl0, hl1', hl2] at HSUB HFITS
            clear hat hx hhv hnm hlm hb1 hb2 hl0 hl1' hl2 hl1 ok1 ok2 ok3 HFB hj hb
            go_upto_region 14 with fail
            rw [← hQ1, ← hch]
            clear hQ1 hch
            clear c0 c1 c2 c3 c4 c5 c6 c7
            go_wp2_with fail
            refine Calls.mono (HSUB.out _) ?_
            rintro e' Q2 ⟨rfl, hl⟩
            have HBQ2 := Lib.hid (HBQ1.out.trans (hl.mono HBQ1.out.size))
            have HOQ2 := Lib.hid (ownsRow_below HOQ1.out hl)
            have HHV2 := Lib.hid (HHV1.out.below hl)
            have d0 := (hl.cell (p := ⟨ch, 0, none⟩) hd).trans d0
            have d1 := (hl.cell (p := ⟨ch, 1, none⟩) hd).trans d1
            have d2 := (hl.cell (p := ⟨ch, 2, none⟩) hd).trans d2
            have d3 := (hl.cell (p := ⟨ch, 3, none⟩) hd).trans d3
            have d4 := (hl.cell (p := ⟨ch, 4, none⟩) hd).trans d4
            have d5 := (hl.cell (p := ⟨ch, 5, none⟩) hd).trans d5
            have d6 := (hl.cell (p := ⟨ch, 6, none⟩) hd).trans d6
            have d7 := (hl.cell (p := ⟨ch, 7, none⟩) hd).trans d7
            have hd := Nat.lt_of_lt_of_le hd hl.size
            clear hl
            obtain ⟨Q3, hQ3⟩ : ∃ W, W = Q2.alloc (.cells #[.int .i64 l0, .int .i64 l1, .int .i64 l2] 27) := ⟨_, rfl⟩
            obtain ⟨cl, hcl⟩ : ∃ c, c = Q2.heap.size := ⟨_, rfl⟩
            have hl : Below Q2.heap.size Q2 Q3 := by rw [hQ3]; exact (Below.refl _ _).alloc (Nat.le_refl _) _
            have HBQ3 := Lib.hid (HBQ2.out.trans (hl.mono HBQ2.out.size))
            have HOQ3 := Lib.hid (ownsRow_below HOQ2.out hl)
            have HHV3 := Lib.hid (HHV2.out.below hl)
            have d0 := (hl.cell (p := ⟨ch, 0, none⟩) hd).trans d0
            have d1 := (hl.cell (p := ⟨ch, 1, none⟩) hd).trans d1
            have d2 := (hl.cell (p := ⟨ch, 2, none⟩) hd).trans d2
            have d3 := (hl.cell (p := ⟨ch, 3, none⟩) hd).trans d3
            have d4 := (hl.cell (p := ⟨ch, 4, none⟩) hd).trans d4
            have d5 := (hl.cell (p := ⟨ch, 5, none⟩) hd).trans d5
            have d6 := (hl.cell (p := ⟨ch, 6, none⟩) hd).trans d6
            have d7 := (hl.cell (p := ⟨ch, 7, none⟩) hd).trans d7
            have hd := Nat.lt_of_lt_of_le hd hl.size
            have q0 : Q3.cell? ⟨cl, 0, none⟩ = some (.int .i64 l0) := by rw [hQ3]; exact (top_cell _ _ _ _ _ hcl).trans rfl
            have q1 : Q3.cell? ⟨cl, 1, none⟩ = some (.int .i64 l1) := by rw [hQ3]; exact (top_cell _ _ _ _ _ hcl).trans rfl
            have q2 : Q3.cell? ⟨cl, 2, none⟩ = some (.int .i64 l2) := by rw [hQ3]; exact (top_cell _ _ _ _ _ hcl).trans rfl
            have hq : cl < Q3.heap.size := by rw [hQ3, hcl]; exact top_lt _ _
            have HXQ := Lib.hid (HX3.out.below HBQ3.out)
            have HVQ := Lib.hid (AskV.below HBQ3.out _ _ HV3.out)
            obtain ⟨x0, x1, x2, x3, x4, _⟩ := HXQ.out
            have HHOL := Lib.hid (Holds_any x h _ _ Q3 HS.out HVQ.out HHV3.out)
            rw [HHO.out, HFT.out] at HHOL
            clear hl
            go_upto_region 15 with fail
            rw [← hQ3, ← hcl]
            clear hQ3 hcl
            go_wp2_with fail
            refine Calls.mono HHOL.out ?_
            rintro e' Q4 ⟨rfl, hl⟩
            have HBQ4 := Lib.hid (HBQ3.out.trans (hl.mono HBQ3.out.size))
            have HOQ4 := Lib.hid (ownsRow_below HOQ3.out hl)
            have HXQ4 := Lib.hid (HXQ.out.below hl)
            clear x0 x1 x2 x3 x4
            have q0 := (hl.cell (p := ⟨cl, 0, none⟩) hq).trans q0
            have q1 := (hl.cell (p := ⟨cl, 1, none⟩) hq).trans q1
            have q2 := (hl.cell (p := ⟨cl, 2, none⟩) hq).trans q2
            obtain ⟨_, _, _, _, _, y0, y1, y2, _⟩ := HXQ4.out
            clear hl d0 d1 d2 d3 d4 d5 d6 d7 hd
            go_wp2_with fail
            refine Calls.mono (HFITS.out _) ?_
            rintro e' Q5 ⟨rfl, hl⟩
            have HBQ5 := Lib.hid (HBQ4.out.trans (hl.mono HBQ4.out.size))
            have HOQ5 := Lib.hid (ownsRow_below HOQ4.out hl)
            have hsz5 : W3.heap.size ≤ Q5.heap.size := HBQ5.out.size
            have hln := fitL_len x A L j
            clear hl q0 q1 q2 y0 y1 y2 hq
            cases b1 with
            | true =>
              cases b2 with
              | true =>
                have HY := Lib.hid (fitL_yes HX.out HHIT.out)
                have hj40 : j ≤ 40 := by have := HN30.out; have := HN.out; omega
                go_wp2_with (at_builtin; refine wpList_push Q5 (by rfl) _ _ 38 (by rfl) W3.heap.size 3 (.int .i64 0) 8 Try.underlying38 infoI (by rfl) u11 (fitL x A L j).length (nats (fitL x A L j)) (nat1 j) _ rfl (by rfl) HOQ5.out (by rfl) (by rfl) (by unfold maxLen; omega) (by omega) hsz5 ?_; intro gg cap2 w1 hown1 hgrow1 hgb hgl; have HP := Lib.hid hown1; have HBG := Lib.hid (HBQ5.out.grown hgrow1 HBQ5.out.size (ownBlock_ge HOQ5.out (Nat.le_refl _))); clear hown1 hgrow1)
                go_roundg (n - (j + 1))
                case measure => (have := HJ.out; omega)
                case rel => exact ⟨j + 1, by have := HJ.out; omega, by simp, by rw [HY.out, nats_snoc, List.length_append]; exact HP, HBG⟩
              | false =>
                have HY := Lib.hid (fitL_no HX.out HHIT.out)
                go_wp2_with fail
                go_roundg (n - (j + 1))
                case measure => (have := HJ.out; omega)
                case rel => exact ⟨j + 1, by have := HJ.out; omega, by simp, by rw [HY.out]; exact HOQ5, HBQ5⟩
            | false =>
              have HY := Lib.hid (fitL_no HX.out HHIT.out)
              go_wp2_with fail
              go_roundg (n - (j + 1))
              case measure => (have := HJ.out; omega)
              case rel => exact ⟨j + 1, by have := HJ.out; omega, by simp, by rw [HY.out]; exact HOQ5, HBQ5⟩
          · obtain rfl : j = n := by omega
            go_wp2_with fail
            go_ret2
            exact ⟨_, by rw [HZ.out]; rfl, by rw [HR.out]; exact ownsRow_low HO.out HB3.out.size, HB3.out.trans (HB.out.mono HB3.out.size)⟩
      · have HR : Hid (fitE x A L = E3) := Lib.hid (by rw [HV.out, he, he2]; rfl)
        have he4 : (E3 != 0) = true := by simpa using he3
        have HNE := Lib.hid he3
        subst he he2
        clear he3
        go_enter Try.func9, Try.ntmps9
        go_upto_region 1 with fail
        rw [← hW0, ← hc]
        clear hW0 hc
        go_wp2_with fail
        refine Calls.mono HHC.out ?_
        rintro e' W1 ⟨rfl, hl⟩
        have HB1 := Lib.hid (HB0.out.trans (hl.mono HB0.out.size))
        have HX1 := Lib.hid (HX2.out.below hl)
        have HV1 := Lib.hid (AskV.below hl _ _ HXV.out)
        obtain ⟨x0, x1, x2, x3, x4, _⟩ := HX1.out
        have HAC := Lib.hid (askCheck_any x _ W1 HS.out HV1.out)
        rw [HE2.out] at HAC
        clear hl
        go_wp2_with fail
        refine Calls.mono HAC.out ?_
        rintro e' W2 ⟨rfl, hl⟩
        have HB2 := Lib.hid (HB1.out.trans (hl.mono HB1.out.size))
        have HX2 := Lib.hid (HX1.out.below hl)
        clear x0 x1 x2 x3 x4
        obtain ⟨x0, x1, x2, x3, x4, y0, y1, y2, _⟩ := HX2.out
        have HNC := Lib.hid (Check_any A.cpu A.mem A.gpu W2)
        rw [show needE A.cpu A.mem A.gpu = E3 from HE3.out] at HNC
        clear hl
        go_wp2_with fail
        refine Calls.mono HNC.out ?_
        rintro e' W3 ⟨rfl, hl⟩
        have HB3 := Lib.hid (HB2.out.trans (hl.mono HB2.out.size))
        clear x0 x1 x2 x3 x4 y0 y1 y2 hl
        go_wp2_with fail
        go_ret2
        exact fit_bad HR.out HNE.out HB3.out
    · have HR : Hid (fitE x A L = E2) := Lib.hid (by rw [HV.out, he, if_neg (by simp), if_pos he2])
      have he4 : (E2 != 0) = true := by simpa using he2
      have HNE := Lib.hid he2
      subst he
      clear he2
      go_enter Try.func9, Try.ntmps9
      go_upto_region 1 with fail
      rw [← hW0, ← hc]
      clear hW0 hc
      go_wp2_with fail
      refine Calls.mono HHC.out ?_
      rintro e' W1 ⟨rfl, hl⟩
      have HB1 := Lib.hid (HB0.out.trans (hl.mono HB0.out.size))
      have HX1 := Lib.hid (HX2.out.below hl)
      have HV1 := Lib.hid (AskV.below hl _ _ HXV.out)
      obtain ⟨x0, x1, x2, x3, x4, _⟩ := HX1.out
      have HAC := Lib.hid (askCheck_any x _ W1 HS.out HV1.out)
      rw [HE2.out] at HAC
      clear hl
      go_wp2_with fail
      refine Calls.mono HAC.out ?_
      rintro e' W2 ⟨rfl, hl⟩
      have HB2 := Lib.hid (HB1.out.trans (hl.mono HB1.out.size))
      have HX2 := Lib.hid (HX1.out.below hl)
      clear hl
      go_wp2_with fail
      go_ret2
      exact fit_bad HR.out HNE.out HB2.out
  · have HR : Hid (fitE x A L = E) := Lib.hid (by rw [HV.out, if_pos he])
    have he2 : (E != 0) = true := by simpa using he
    have HNE := Lib.hid he
    clear he
    go_enter Try.func9, Try.ntmps9
    go_upto_region 1 with fail
    rw [← hW0, ← hc]
    clear hW0 hc
    go_wp2_with fail
    refine Calls.mono HHC.out ?_
    rintro e' W1 ⟨rfl, hl⟩
    have HB1 := Lib.hid (HB0.out.trans (hl.mono HB0.out.size))
    clear hl
    go_wp2_with fail
    go_ret2
    exact fit_bad HR.out HNE.out HB1.out
end Go.Proofs.Ytnfmopmcckgfdaa
