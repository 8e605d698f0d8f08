/- Contracts: the least job that may begin; the next time at which a hand is free. -/
import Derived.Test.YtfjoakhcgpckgaaListTab
import Derived.StillTailTactics
namespace Go.Proofs.Ytfjoakhcgpckgaa
open Go.ChangeShapes Go.WideShapes Go.ChangeAt Go.RowKit
set_option linter.unusedVariables false
open Gr (El Tm)
open Ls
def waitsE (d : Tm) (s : St) (i : Nat) (x : Int × Int) : Bool := x.2 == (i : Int) && !endedP d s x.1.toNat
/-- all that the closures read -/
structure RC (m n gt gu gb gf : Nat) (a b : Option Addr) (l cap k cap2 : Nat) (s : St) (L : El) (D : List Int) (w0 w : World) : Prop where
  h60 : n ≤ 60
  hl : l = L.length
  hl4 : l ≤ 400
  hk : k = D.length
  hkn : k = n
  hL : Edges w a L
  hD : Vals w b (ints D)
  hO : Gr.Ok n L
  hT : TW m n gt gu gb gf a b l cap k cap2 s w0 w
  hI : Inv m n (dur D) s
  hd : ∀ i, i < n → 0 ≤ dur D i ∧ dur D i ≤ 1000000000
theorem RC.step {m n gt gu gb gf : Nat} {a b : Option Addr} {l cap k cap2 : Nat} {s : St} {L : El} {D : List Int} {w0 w w' : World} (h : RC m n gt gu gb gf a b l cap k cap2 s L D w0 w) (hb : Below w.heap.size w w') : RC m n gt gu gb gf a b l cap k cap2 s L D w0 w' :=
  ⟨h.h60, h.hl, h.hl4, h.hk, h.hkn, h.hL.below hb (Nat.le_refl _), h.hD.below hb (Nat.le_refl _), h.hO, h.hT.step hb, h.hI, h.hd⟩
section
variable (m n gt gu gb gf : Nat) (a b : Option Addr) (l cap k cap2 : Nat) (s : St) (L : El) (D : List Int)
set_option maxHeartbeats 4000000 in
theorem wait11_any (x y : Int) (i gi gv gn : Nat) (w0 w : World) (hC : RC m n gt gu gb gf a b l cap k cap2 s L D w0 w) (hx : 0 ≤ x) (hxn : x < n) (h1 : w.cell? ⟨gi, 0, none⟩ = some (.int .i64 i)) (h2 : w.cell? ⟨gv, 0, none⟩ = some (.pointer (some ⟨gt, 0, none⟩))) (h3 : w.cell? ⟨gn, 0, none⟩ = some (.int .i64 s.now)) (l1 : gi < w.heap.size) (l2 : gv < w.heap.size) (l3 : gn < w.heap.size) :
    Calls Try.prog 178 #[.agg #[.int .i64 x, .int .i64 y], .pointer (some ⟨gi, 0, none⟩), .pointer (some ⟨gv, 0, none⟩), .pointer (some ⟨gn, 0, none⟩)] w fun e w' => e = .returned (.bool (waitsE (dur D) s i (x, y))) ∧ Below w.heap.size w w' := by
  obtain ⟨j, rfl⟩ := Int.eq_ofNat_of_zero_le hx
  have hjn : j < n := by omega
  have HJ := Lib.hid hjn
  have HB0 : Below w.heap.size w (w.alloc (.cells #[.int .i64 (j : Int), .int .i64 y] 66)) := (Below.refl _ _).alloc (Nat.le_refl _) _
  have HB := Lib.hid HB0
  have HC := Lib.hid (hC.step HB0)
  clear hC HB0
  cases hy : (y == (i : Int)) with
  | false =>
    have HV : Hid (waitsE (dur D) s i ((j : Int), y) = false) := Lib.hid (by simp [waitsE, hy])
    go_enter Try.func178, Try.ntmps178
    go_wp2_with fail
    go_ret
    exact ⟨by rw [HV.out]; rfl, HB.out⟩
  | true =>
    have HV : Hid (waitsE (dur D) s i ((j : Int), y) = !endedP (dur D) s j) := Lib.hid (by simp [waitsE, hy])
    go_enter Try.func178, Try.ntmps178
    go_wp2_with (go_at_call 179; refine Calls.mono (ended_any m n gt gu gb gf a b l cap k cap2 s D j w0 _ HC.out.h60 HJ.out HC.out.hk HC.out.hkn HC.out.hD HC.out.hT HC.out.hI HC.out.hd) ?_; rintro e w3 ⟨rfl, hB4⟩)
    go_ret
    exact ⟨by rw [HV.out]; rfl, HB.out.trans (hB4.mono HB.out.size)⟩
set_option maxHeartbeats 4000000 in
theorem indexW_any (i gi gv gn : Nat) (w0 w : World) (hC : RC m n gt gu gb gf a b l cap k cap2 s L D w0 w) (h1 : w.cell? ⟨gi, 0, none⟩ = some (.int .i64 i)) (h2 : w.cell? ⟨gv, 0, none⟩ = some (.pointer (some ⟨gt, 0, none⟩))) (h3 : w.cell? ⟨gn, 0, none⟩ = some (.int .i64 s.now)) (l1 : gi < w.heap.size) (l2 : gv < w.heap.size) (l3 : gn < w.heap.size) :
    Calls Try.prog 213 #[.slice a l cap, .func (.func 178) #[] #[.pointer (some ⟨gi, 0, none⟩), .pointer (some ⟨gv, 0, none⟩), .pointer (some ⟨gn, 0, none⟩)]] w fun e w' => ∃ z : Int, e = .returned (.int .i64 z) ∧ decide (z ≥ 0) = L.any (waitsE (dur D) s i) ∧ Below w.heap.size w w' := by
  have HC := Lib.hid hC
  have HN := Lib.hid hC.hl
  have hl4 := hC.hl4
  have H1 := Lib.hid h1
  have H2 := Lib.hid h2
  have H3 := Lib.hid h3
  clear hC h1 h2 h3
  go_enter Try.func213, Try.ntmps213
  go_wp2_with fail
  go_loopw [8] (fun v wr => ∃ q : Nat, q ≤ l ∧ v = .int .i64 q ∧ Hid ((L.take q).any (waitsE (dur D) s i) = false) ∧ Below w.heap.size w wr) (fun v _ => l - (intOf v).toNat)
  case atStart => exact ⟨0, by omega, rfl, Lib.hid (by simp), Below.refl _ _⟩
  case round =>
    obtain ⟨q, hq, rfl, HQ, hB⟩ := hrel
    have hsz := hB.size
    by_cases hql : q < l
    · have HCr := Lib.hid (HC.out.step hB)
      obtain ⟨b0, off, e0, hb, hat⟩ := HCr.out.hL (by have := HN.out; omega)
      subst e0
      obtain ⟨⟨x, y⟩, hx⟩ : ∃ x, L[q]? = some x := ⟨_, List.getElem?_eq_getElem (by have := HN.out; omega)⟩
      obtain ⟨q0, q1⟩ := hat q x y hx
      obtain ⟨x0, x1, _, _⟩ := HC.out.hO _ (List.mem_of_getElem? hx)
      simp only at x0 x1
      have HGO : Hid ((L.take (q + 1)).any (waitsE (dur D) s i) = ((L.take q).any (waitsE (dur D) s i) || waitsE (dur D) s i (x, y))) := Lib.hid (by simp [List.take_add_one, hx, List.any_append])
      have HX := Lib.hid hx
      have H1r := Lib.hid ((hB.cell (p := ⟨gi, 0, none⟩) l1).trans H1.out)
      have H2r := Lib.hid ((hB.cell (p := ⟨gv, 0, none⟩) l2).trans H2.out)
      have H3r := Lib.hid ((hB.cell (p := ⟨gn, 0, none⟩) l3).trans H3.out)
      have HLT : Hid (gi < wr.heap.size ∧ gv < wr.heap.size ∧ gn < wr.heap.size) := Lib.hid (by omega)
      clear hat hx
      cases hp : waitsE (dur D) s i (x, y) with
      | true =>
        have HP := Lib.hid hp
        have HY : Hid (L.any (waitsE (dur D) s i) = true) := Lib.hid (List.any_eq_true.2 ⟨_, List.mem_of_getElem? HX.out, hp⟩)
        clear hp
        go_wp2_with (go_at_call 178; refine Calls.mono (wait11_any m n gt gu gb gf _ b l cap k cap2 s L D x y i gi gv gn w0 _ HCr.out x0 x1 H1r.out H2r.out H3r.out HLT.out.1 HLT.out.2.1 HLT.out.2.2) ?_; rintro e w3 ⟨rfl, hB4⟩; rw [HP.out]; have hB5 := hB.trans (hB4.mono hsz))
        go_ret
        exact ⟨(q : Int), rfl, by rw [HY.out]; simp, hB5⟩
      | false =>
        have HP := Lib.hid hp
        have HQ2 : Hid ((L.take (q + 1)).any (waitsE (dur D) s i) = false) := Lib.hid (by rw [HGO.out, HQ.out, hp]; rfl)
        clear hp
        go_wp2_with (go_at_call 178; refine Calls.mono (wait11_any m n gt gu gb gf _ b l cap k cap2 s L D x y i gi gv gn w0 _ HCr.out x0 x1 H1r.out H2r.out H3r.out HLT.out.1 HLT.out.2.1 HLT.out.2.2) ?_; rintro e w3 ⟨rfl, hB4⟩; rw [HP.out]; have hB5 := hB.trans (hB4.mono hsz))
        go_roundw
        case rel => exact ⟨q + 1, by omega, rfl, HQ2, hB5⟩
        case measure => simp [intOf]; omega
    · have HY : Hid (L.any (waitsE (dur D) s i) = false) := Lib.hid (by have h := HQ.out; rwa [List.take_of_length_le (by have := HN.out; omega)] at h)
      go_wp2_with fail
      go_ret
      exact ⟨-1, rfl, by rw [HY.out]; rfl, hB⟩
set_option maxHeartbeats 4000000 in
theorem containsW_any (i gi gv gn : Nat) (w0 w : World) (hC : RC m n gt gu gb gf a b l cap k cap2 s L D w0 w) (h1 : w.cell? ⟨gi, 0, none⟩ = some (.int .i64 i)) (h2 : w.cell? ⟨gv, 0, none⟩ = some (.pointer (some ⟨gt, 0, none⟩))) (h3 : w.cell? ⟨gn, 0, none⟩ = some (.int .i64 s.now)) (l1 : gi < w.heap.size) (l2 : gv < w.heap.size) (l3 : gn < w.heap.size) :
    Calls Try.prog 177 #[.slice a l cap, .func (.func 178) #[] #[.pointer (some ⟨gi, 0, none⟩), .pointer (some ⟨gv, 0, none⟩), .pointer (some ⟨gn, 0, none⟩)]] w fun e w' => e = .returned (.bool (L.any (waitsE (dur D) s i))) ∧ Below w.heap.size w w' := by
  have HC := Lib.hid hC
  have H1 := Lib.hid h1
  have H2 := Lib.hid h2
  have H3 := Lib.hid h3
  clear hC h1 h2 h3
  go_enter Try.func177, Try.ntmps177
  go_wp2_with (go_at_call 213; refine Calls.mono (indexW_any m n gt gu gb gf a b l cap k cap2 s L D i gi gv gn w0 _ HC.out H1.out H2.out H3.out l1 l2 l3) ?_; rintro e w1 ⟨z, rfl, hz, hB1⟩; have HZ := Lib.hid hz; clear hz)
  go_ret
  exact ⟨by rw [← HZ.out]; rfl, hB1⟩
set_option maxRecDepth 100000 in
set_option maxHeartbeats 4000000 in
theorem ready1_any (i gv gn : Nat) (w0 w : World) (hC : RC m n gt gu gb gf a b l cap k cap2 s L D w0 w) (hi : i < n) (h2 : w.cell? ⟨gv, 0, none⟩ = some (.pointer (some ⟨gt, 0, none⟩))) (h3 : w.cell? ⟨gn, 0, none⟩ = some (.int .i64 s.now)) (l2 : gv < w.heap.size) (l3 : gn < w.heap.size) :
    Calls Try.prog 176 #[.int .i64 i, .pointer (some ⟨gv, 0, none⟩), .pointer (some ⟨gn, 0, none⟩)] w fun e w' => e = .returned (.bool (readyP L (dur D) s i)) ∧ Below w.heap.size w w' := by
  obtain ⟨W, hW⟩ : ∃ W, W = w.alloc (.cells #[.int .i64 (i : Int)] 3) := ⟨_, rfl⟩
  have hB0 : Below w.heap.size w W := by rw [hW]; exact (Below.refl _ _).alloc (Nat.le_refl _) _
  have c0 : W.cell? ⟨w.heap.size, 0, none⟩ = some (.int .i64 (i : Int)) := by rw [hW]; simp
  have hs0 : w.heap.size < W.heap.size := by rw [hW]; simp
  have hCW := hC.step hB0
  have c2 := hCW.hT.begun.cell hi
  unfold bools at c2
  have p0 : W.cell? ⟨gt, 0, none⟩ = some (.slice a l cap) := hCW.hT.var.cell (i := 0) (by omega)
  have p3 : W.cell? ⟨gt, 3, none⟩ = some (.slice (some ⟨gb, 0, none⟩) n n) := hCW.hT.var.cell (i := 3) (by omega)
  have t1 := hCW.hT.var.lt
  have t3 := hCW.hT.begun.lt
  have c3 := (hB0.cell (p := ⟨gv, 0, none⟩) l2).trans h2
  have c4 := (hB0.cell (p := ⟨gn, 0, none⟩) l3).trans h3
  have hi1 : (0 : Int) ≤ (i : Int) := by omega
  have hi2 : (i : Int) < (n : Int) := by omega
  have HC := Lib.hid hCW
  have HB := Lib.hid hB0
  have HW := Lib.hid hW
  have l2w : gv < W.heap.size := by omega
  have l3w : gn < W.heap.size := by omega
  clear hC hCW hB0 h2 h3
  cases hb : s.beg i with
  | true =>
    have HV : Hid (readyP L (dur D) s i = false) := Lib.hid (by simp [readyP, hb])
    rw [hb] at c2
    clear hb hW
    go_enter Try.func176, Try.ntmps176
    go_wp2_with fail
    rw [← HW.out]
    go_quiet (fail)
    go_wp2_with fail
    go_ret
    exact ⟨by rw [HV.out]; rfl, below_drewN HB.out _⟩
  | false =>
    have HV : Hid (readyP L (dur D) s i = !(L.any (waitsE (dur D) s i))) := Lib.hid (by unfold readyP; rw [hb]; rfl)
    rw [hb] at c2
    clear hb hW
    go_enter Try.func176, Try.ntmps176
    go_wp2_with fail
    rw [← HW.out]
    go_still_tail 14, (by kernel_rfl)
    change wpList _ _ _ _ _ W.drew
    have HBD := Lib.hid ((Below.refl W.heap.size W).drew)
    have HCD := Lib.hid (HC.out.step HBD.out)
    have C0 := Lib.hid ((HBD.out.cell (p := ⟨w.heap.size, 0, none⟩) hs0).trans c0)
    have C3 := Lib.hid ((HBD.out.cell (p := ⟨gv, 0, none⟩) l2w).trans c3)
    have C4 := Lib.hid ((HBD.out.cell (p := ⟨gn, 0, none⟩) l3w).trans c4)
    have HLT : Hid (w.heap.size < W.drew.heap.size ∧ gv < W.drew.heap.size ∧ gn < W.drew.heap.size) := Lib.hid (by have := HBD.out.size; omega)
    go_wp2_with (go_at_call 177; refine Calls.mono (containsW_any m n gt gu gb gf a b l cap k cap2 s L D i w.heap.size gv gn w0 _ HCD.out C0.out C3.out C4.out HLT.out.1 HLT.out.2.1 HLT.out.2.2) ?_; rintro e w3 ⟨rfl, hB4⟩)
    go_ret
    exact ⟨by rw [HV.out]; rfl, HB.out.trans ((HBD.out.trans (hB4.mono HBD.out.size)).mono HB.out.size)⟩
set_option maxHeartbeats 4000000 in
theorem numbers_any (q : Nat) (w : World) (hq : q ≤ 1000) : Calls Try.prog 130 #[.int .i64 q] w (Nats1 (List.range q) w) := by
  go_enter Try.func130, Try.ntmps130
  go_wp2_with fail
  go_loopw [3, 6] (fun v x wr => ∃ i : Nat, i ≤ q ∧ x = .int .i64 i ∧ Hid (wr.ownsRow w.heap.size 3 1 v i (nats (List.range i))) ∧ Below w.heap.size w wr) (fun _ x _ => q - (intOf x).toNat)
  case atStart => exact ⟨0, by omega, rfl, Lib.hid (World.ownsRow_nil _ _ _ _), Below.refl _ _⟩
  case round =>
    obtain ⟨i, hi, rfl, HOW, hB⟩ := hrel
    have hsz := hB.size
    by_cases hiq : i < q
    · go_wp2_with (at_builtin; refine wpList_push _ (by rfl) _ _ 58 (by rfl) w.heap.size 3 (.int .i64 0) 8 Try.underlying58 infoInt (by rfl) u3 i _ (nat1 i) _ rfl (by rfl) HOW.out (by rfl) (by rfl) (by unfold maxLen; omega) (by omega) (by omega) ?_; intro gg cap2 w4 hown1 hgrow1 hgb hgl; have HPU := Lib.hid hown1; have hB5 := hB.grown hgrow1 hsz (ownBlock_ge HOW.out (Nat.le_refl _)); clear hown1 hgrow1 hgb)
      have HO2 : Hid (w4.ownsRow w.heap.size 3 1 (.slice (some ⟨gg, 0, none⟩) (i + 1) cap2) (i + 1) (nats (List.range (i + 1)))) := Lib.hid (by rw [List.range_succ, nats_snoc]; exact HPU.out)
      go_roundw
      case rel => exact ⟨i + 1, by omega, rfl, HO2, hB5⟩
      case measure => simp [intOf]; omega
    · obtain rfl : i = q := by omega
      have HV := Lib.hid (IsVals.own HOW.out)
      go_wp2_with fail
      go_ret
      exact ⟨_, rfl, HV.out, hB⟩
set_option maxHeartbeats 4000000 in
theorem indexR_any (c1 : Nat) (a1 : Option Addr) (gv gn : Nat) (w0 w : World) (hC : RC m n gt gu gb gf a b l cap k cap2 s L D w0 w) (hV : Vals w a1 (nats (List.range n))) (h2 : w.cell? ⟨gv, 0, none⟩ = some (.pointer (some ⟨gt, 0, none⟩))) (h3 : w.cell? ⟨gn, 0, none⟩ = some (.int .i64 s.now)) (l2 : gv < w.heap.size) (l3 : gn < w.heap.size) :
    Calls Try.prog 175 #[.slice a1 n c1, .func (.func 176) #[] #[.pointer (some ⟨gv, 0, none⟩), .pointer (some ⟨gn, 0, none⟩)]] w fun e w' => e = .returned (.int .i64 (readyI n L (dur D) s)) ∧ Below w.heap.size w w' := by
  have HC := Lib.hid hC
  have h60 := hC.h60
  have HV := Lib.hid hV
  have H2 := Lib.hid h2
  have H3 := Lib.hid h3
  clear hC hV h2 h3
  go_enter Try.func175, Try.ntmps175
  go_wp2_with fail
  go_loopw [8] (fun x wr => ∃ i : Nat, i ≤ n ∧ x = .int .i64 i ∧ Hid (∀ j, j < i → readyP L (dur D) s j = false) ∧ Below w.heap.size w wr) (fun x _ => n - (intOf x).toNat)
  case atStart => exact ⟨0, by omega, rfl, Lib.hid (fun j hj => absurd hj (by omega)), Below.refl _ _⟩
  case round =>
    obtain ⟨i, hi, rfl, HP, hB⟩ := hrel
    have hsz := hB.size
    by_cases hin : i < n
    · obtain ⟨b1, o1, rfl, hb1, hat1⟩ := HV.out (by rw [nats_length, List.length_range]; omega)
      have c0 := (hB.cell (p := ⟨b1, o1 + i, none⟩) hb1).trans (hat1 i (nat1 i) (by simp [nats, hin]))
      unfold nat1 at c0
      have hb1r : b1 < wr.heap.size := by omega
      have HCr := Lib.hid (HC.out.step hB)
      have HIN := Lib.hid hin
      have H2r := Lib.hid ((hB.cell (p := ⟨gv, 0, none⟩) l2).trans H2.out)
      have H3r := Lib.hid ((hB.cell (p := ⟨gn, 0, none⟩) l3).trans H3.out)
      have HLT : Hid (gv < wr.heap.size ∧ gn < wr.heap.size) := Lib.hid (by omega)
      clear hat1
      cases hp : readyP L (dur D) s i with
      | true =>
        have HPI := Lib.hid hp
        have HY : Hid (readyI n L (dur D) s = i) := Lib.hid (leastI_some hin hp HP.out)
        clear hp
        go_wp2_with (go_at_call 176; refine Calls.mono (ready1_any m n gt gu gb gf a b l cap k cap2 s L D i gv gn w0 _ HCr.out HIN.out H2r.out H3r.out HLT.out.1 HLT.out.2) ?_; rintro e w3 ⟨rfl, hB4⟩; rw [HPI.out]; have hB5 := hB.trans (hB4.mono hsz))
        go_ret
        exact ⟨by rw [HY.out]; rfl, hB5⟩
      | false =>
        have HPI := Lib.hid hp
        have HP2 : Hid (∀ j, j < i + 1 → readyP L (dur D) s j = false) := Lib.hid fun j hj => by
          by_cases e : j = i
          · rw [e]; exact hp
          · exact HP.out j (by omega)
        clear hp
        go_wp2_with (go_at_call 176; refine Calls.mono (ready1_any m n gt gu gb gf a b l cap k cap2 s L D i gv gn w0 _ HCr.out HIN.out H2r.out H3r.out HLT.out.1 HLT.out.2) ?_; rintro e w3 ⟨rfl, hB4⟩; rw [HPI.out]; have hB5 := hB.trans (hB4.mono hsz))
        go_roundw
        case rel => exact ⟨i + 1, by omega, rfl, HP2, hB5⟩
        case measure => simp [intOf]; omega
    · have HY : Hid (readyI n L (dur D) s = -1) := Lib.hid (leastI_none (by have h := HP.out; rwa [show i = n by omega] at h))
      go_wp2_with fail
      go_ret
      exact ⟨by rw [HY.out]; rfl, hB⟩
set_option maxHeartbeats 4000000 in
theorem ready_any (w0 w : World) (hC : RC m n gt gu gb gf a b l cap k cap2 s L D w0 w) :
    Calls Try.prog 106 #[.pointer (some ⟨gt, 0, none⟩), .int .i64 s.now] w fun e w' => e = .returned (.int .i64 (readyI n L (dur D) s)) ∧ Below w.heap.size w w' := by
  have hbW : Below w.heap.size w ((w.alloc (.cells #[.pointer (some ⟨gt, 0, none⟩)] 160)).alloc (.cells #[.int .i64 s.now] 2)) := ((Below.refl _ _).alloc (Nat.le_refl _) _).alloc (by simp) _
  have hc1 : ((w.alloc (.cells #[.pointer (some ⟨gt, 0, none⟩)] 160)).alloc (.cells #[.int .i64 s.now] 2)).cell? ⟨w.heap.size, 0, none⟩ = some (.pointer (some ⟨gt, 0, none⟩)) := by simp [World.cell?_alloc2_first]
  have hc2 : ((w.alloc (.cells #[.pointer (some ⟨gt, 0, none⟩)] 160)).alloc (.cells #[.int .i64 s.now] 2)).cell? ⟨w.heap.size + 1, 0, none⟩ = some (.int .i64 s.now) := by simp [World.cell?_alloc2_new]
  have hCW := hC.step hbW
  have p1 : ((w.alloc (.cells #[.pointer (some ⟨gt, 0, none⟩)] 160)).alloc (.cells #[.int .i64 s.now] 2)).cell? ⟨gt, 1, none⟩ = some (.slice b k cap2) := hCW.hT.var.cell (i := 1) (by omega)
  have t1 := hCW.hT.var.lt
  have h60 := hC.h60
  obtain rfl : k = n := hC.hkn
  have HB := Lib.hid hbW
  have HC := Lib.hid hCW
  have HC1 := Lib.hid hc1
  have HC2 := Lib.hid hc2
  clear hC hCW hbW hc1 hc2
  go_enter Try.func106, Try.ntmps106
  go_wp2_with (first
    | (go_at_call 130; refine Calls.mono (numbers_any k _ (by omega)) ?_; rintro e w1 ⟨v, rfl, hv, hB1⟩; obtain ⟨a1, c1, rfl, j1⟩ := hv; rw [nats_length, List.length_range]; have HJ1 := Lib.hid j1; clear j1; have HC3 := Lib.hid (HC.out.step hB1); have s1 := hB1.size; simp only [World.size_alloc] at s1; have HD1 := Lib.hid ((hB1.cell (p := ⟨w.heap.size, 0, none⟩) (by simp; omega)).trans HC1.out); have HD2 := Lib.hid ((hB1.cell (p := ⟨w.heap.size + 1, 0, none⟩) (by simp)).trans HC2.out); have HLT : Hid (w.heap.size < w1.heap.size ∧ w.heap.size + 1 < w1.heap.size) := Lib.hid (by omega))
    | (go_at_call 175; refine Calls.mono (indexR_any m k gt gu gb gf a b l cap k cap2 s L D _ a1 w.heap.size (w.heap.size + 1) w0 _ HC3.out HJ1.out HD1.out HD2.out HLT.out.1 HLT.out.2) ?_; rintro e w2 ⟨rfl, hB2⟩))
  go_ret
  exact ⟨rfl, HB.out.trans ((hB1.trans (hB2.mono hB1.size)).mono HB.out.size)⟩
set_option maxHeartbeats 4000000 in
theorem next_any (w0 w : World) (hm : m ≤ 20) (hT : TW m n gt gu gb gf a b l cap k cap2 s w0 w) (hI : Inv m n (dur D) s) :
    Calls Try.prog 107 #[.pointer (some ⟨gt, 0, none⟩), .int .i64 s.now] w fun e w' => e = .returned (.int .i64 (nextI m s)) ∧ Below w.heap.size w w' := by
  have p4 : w.cell? ⟨gt, 4, none⟩ = some (.slice (some ⟨gf, 0, none⟩) m m) := hT.var.cell (i := 4) (by omega)
  have t1 := hT.var.lt
  have HF := Lib.hid hT.free
  clear hT hI
  go_enter Try.func107, Try.ntmps107
  go_wp2_with fail
  go_loopw [5, 13] (fun v x wr => ∃ i : Nat, i ≤ m ∧ x = .int .i64 i ∧ v = .int .i64 (nextK s.now s.free i) ∧ Below w.heap.size w wr) (fun _ x _ => m - (intOf x).toNat)
  case atStart => exact ⟨0, by omega, rfl, rfl, Below.refl _ _⟩
  case round =>
    obtain ⟨i, hi, rfl, rfl, hB⟩ := hrel
    have hsz := hB.size
    by_cases him : i < m
    · have e1 := (rowIs_below HF.out hB HF.out.lt).cell him
      have hfl := (rowIs_below HF.out hB HF.out.lt).lt
      unfold i64s at e1
      have HGO := Lib.hid (show nextK s.now s.free (i + 1) = if s.now < s.free i ∧ (nextK s.now s.free i < 0 ∨ s.free i < nextK s.now s.free i) then s.free i else nextK s.now s.free i from rfl)
      by_cases h1 : s.now < s.free i
      · have h1b : decide (s.free i > s.now) = true := by simp [h1]
        by_cases h2 : nextK s.now s.free i < 0
        · have h2b : decide (nextK s.now s.free i < 0) = true := by simp [h2]
          have HG2 := Lib.hid (HGO.out.trans (if_pos ⟨h1, .inl h2⟩))
          clear h1 h2
          go_wp2_with fail
          go_roundw
          case rel => exact ⟨i + 1, by omega, rfl, by rw [HG2.out], hB⟩
          case measure => simp [intOf]; omega
        · have h2b : decide (nextK s.now s.free i < 0) = false := by simp [h2]
          by_cases h3 : s.free i < nextK s.now s.free i
          · have h3b : decide (s.free i < nextK s.now s.free i) = true := by simp [h3]
            have HG2 := Lib.hid (HGO.out.trans (if_pos ⟨h1, .inr h3⟩))
            clear h1 h2 h3
            go_wp2_with fail
            go_roundw
            case rel => exact ⟨i + 1, by omega, rfl, by rw [HG2.out], hB⟩
            case measure => simp [intOf]; omega
          · have h3b : decide (s.free i < nextK s.now s.free i) = false := by simp [h3]
            have HG2 := Lib.hid (HGO.out.trans (if_neg (by omega)))
            clear h1 h2 h3
            go_wp2_with fail
            go_roundw
            case rel => exact ⟨i + 1, by omega, rfl, by rw [HG2.out], hB⟩
            case measure => simp [intOf]; omega
      · have h1b : decide (s.free i > s.now) = false := by simp [h1]
        have HG2 := Lib.hid (HGO.out.trans (if_neg (by omega)))
        clear h1
        go_wp2_with fail
        go_roundw
        case rel => exact ⟨i + 1, by omega, rfl, by rw [HG2.out], hB⟩
        case measure => simp [intOf]; omega
    · obtain rfl : i = m := by omega
      go_wp2_with fail
      go_ret
      exact ⟨rfl, hB⟩
end
end Go.Proofs.Ytfjoakhcgpckgaa
