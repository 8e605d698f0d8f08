/- Contract: jobs of a graph from one time to the next; the document's. -/
import Derived.Test.YtfjoakhcgpckgaaListRefM
namespace Go.Proofs.Ytfjoakhcgpckgaa
open Go.ChangeShapes Go.WideShapes Go.ChangeAt Go.RowKit
set_option linter.unusedVariables false
open Gr (El Tm)
open Ls
structure RW (n gu : Nat) (s : St) (w wr : World) : Prop where
  turns : wr.rowIs gu 169 (2 * n) (turnsF (atZ s) (hdZ s))
  lu : w.heap.size ≤ gu
  below : Below w.heap.size w wr
theorem RW.step {n gu : Nat} {s : St} {w wr w' : World} (h : RW n gu s w wr) (hb : Below wr.heap.size wr w') : RW n gu s w w' :=
  ⟨rowIs_below h.turns hb h.turns.lt, h.lu, h.below.trans (hb.mono h.below.size)⟩
theorem RW.put {n gu : Nat} {s : St} {w wr : World} {d : Tm} (h : RW n gu s w wr) (i k : Nat) : RW n gu (s.put d i k) w ((wr.setCell ⟨gu, 2 * i, none⟩ (.int .i64 s.now)).setCell ⟨gu, 2 * i + 1, none⟩ (.int .i64 (k : Int))) :=
  ⟨by rw [atZ_put, hdZ_put]; exact turns_set h.turns i s.now (k : Int), h.lu, (h.below.setCell h.lu _).setCell h.lu _⟩
theorem RW.same {n gu : Nat} {s s' : St} {w wr : World} (h : RW n gu s w wr) (h1 : atZ s' = atZ s) (h2 : hdZ s' = hdZ s) : RW n gu s' w wr := ⟨by rw [h1, h2]; exact h.turns, h.lu, h.below⟩
def ini (k : Nat) : Tm := fun j => if j < k then -1 else 0
theorem ini_go (k : Nat) : setN (ini k) k (-1) = ini (k + 1) := by
  funext j
  simp only [setN, ini]
  by_cases e : j = k
  · simp [e]
  · by_cases h : j < k
    · simp [e, h, show j < k + 1 by omega]
    · simp [e, h, show ¬ j < k + 1 by omega]
/-- in the midst of a time: who has begun so far -/
structure RS (m n : Nat) (L : El) (d : Tm) (s : St) (t e : Int) (f : Bool) (k : Nat) (g : Nat) : Prop where
  inv : Inv m n d s
  run : ∀ r, Run m n L d s r → Run m n L d St.zero r
  now : s.now = t
  e0 : 0 ≤ e
  e1 : e ≤ s.fin
  no : f = false → leftN n s ≠ 0 → handI m s < 0 ∨ readyI n L d s < 0
  lt : 2 * leftN n s + bn f ≤ k
  rounds : rounds m n s ≤ g
theorem RS.stop {m n : Nat} {L : El} {d : Tm} {s : St} {t e : Int} {f : Bool} {k g : Nat} (h : RS m n L d s t e f k g) (hf : f = true) (hn : handI m s < 0 ∨ readyI n L d s < 0) : 0 < k ∧ RS m n L d s t e false (k - 1) g := by
  have := h.lt
  subst hf
  simp only [bn, if_true] at this
  exact ⟨by omega, h.inv, h.run, h.now, h.e0, h.e1, fun _ _ => hn, by simp [bn]; omega, h.rounds⟩
theorem RS.go {m n : Nat} {L : El} {d : Tm} {s : St} {t e : Int} {f : Bool} {k g i hh : Nat} (hd : ∀ i, i < n → 0 ≤ d i ∧ d i ≤ 1000000000) (hm : 0 < m) (h : RS m n L d s t e f k g) (hf : f = true) (h1 : handI m s = (hh : Int)) (h2 : readyI n L d s = (i : Int)) : 0 < k ∧ RS m n L d (s.put d i hh) t e true (k - 1) g := by
  have hlt := h.lt
  subst hf
  simp only [bn, if_true] at hlt
  obtain ⟨a1, a2⟩ := hand_of (m := m) (s := s) (by omega)
  obtain ⟨b1, b2⟩ := ready_of (n := n) (L := L) (d := d) (s := s) (by omega)
  rw [h1, Int.toNat_natCast] at a1 a2
  rw [h2, Int.toNat_natCast] at b1 b2
  have hl := leftN_put (d := d) (h := hh) b1 b2
  have hr := rounds_put (m := m) (d := d) (h := hh) b1 b2 hm
  have hg := h.rounds
  refine ⟨by omega, h.inv.put hd b1 b2 a1 a2, fun r hr => h.run r (.put (by omega) (by omega) (by omega) (by rw [h1, h2, Int.toNat_natCast, Int.toNat_natCast]; exact hr)), h.now, h.e0, ?_, fun h => Bool.noConfusion h, by simp [bn]; omega, by omega⟩
  have := h.e1
  show e ≤ max s.fin (s.now + d i)
  omega
/-- from one time to the next one -/
structure RT (m n : Nat) (L : El) (d : Tm) (s : St) (t e : Int) (g : Nat) : Prop where
  inv : Inv m n d s
  run : ∀ r, Run m n L d s r → Run m n L d St.zero r
  now : s.now = t
  e0 : 0 ≤ e
  e1 : e ≤ s.fin
  rounds : rounds m n s ≤ g
theorem RT.begin {m n : Nat} {L : El} {d : Tm} {s : St} {t e : Int} {g : Nat} (h : RT m n L d s t e g) : RS m n L d s t e true (2 * n + 1) g :=
  ⟨h.inv, h.run, h.now, h.e0, h.e1, fun h => Bool.noConfusion h, by have := many_len (not' s.beg) n; unfold leftN; simp [bn]; omega, h.rounds⟩
theorem RS.over {m n : Nat} {L : El} {d : Tm} {s : St} {t e : Int} {k g : Nat} {ord : List Nat} (hT : Gr.Topo n L ord) (hO : Gr.Ok n L) (hm : 0 < m) (h : RS m n L d s t e false k g) (hl : leftN n s ≠ 0) : 0 ≤ nextI m s ∧ 0 < g ∧ RT m n L d (s.wait (nextI m s)) (nextI m s) s.fin (g - 1) := by
  have hno := h.no rfl hl
  obtain ⟨p1, p2⟩ := progress hT hO h.inv hm (by omega) hno
  obtain ⟨q1, q2⟩ := h.inv.wait p1
  have h3 : leftN n (s.wait (nextI m s)) = leftN n s := rfl
  have h4 := h.rounds
  unfold Ls.rounds at h4
  refine ⟨p1, by omega, q1, fun r hr => h.run r (.wait hl hno hr), rfl, h.inv.fin0, Int.le_refl _, ?_⟩
  unfold Ls.rounds
  rw [h3]
  omega
def RunPost (m n : Nat) (L : El) (D : List Int) (w : World) (e : Ending) (w' : World) : Prop :=
  ∃ (gu : Nat) (r : St), e = .returned (.tuple #[.slice (some ⟨gu, 0, none⟩) n n, .int .i64 r.fin]) ∧ Run m n L (dur D) St.zero r ∧ w'.rowIs gu 169 (2 * n) (turnsF (atZ r) (hdZ r)) ∧ Below w.heap.size w w'
set_option maxRecDepth 100000 in
set_option maxHeartbeats 16000000 in
theorem GraphRun_good (m n : Nat) (L : El) (D : List Int) (a b : Option Addr) (l cap k cap2 : Nat) (w : World) (h1 : 1 ≤ m) (h2 : m ≤ 20) (hn : l = L.length) (hL : Edges w a L) (hm : k = D.length) (hD : Vals w b (ints D)) (hF : Fine n L D) :
    Calls Try.prog 19 #[.int .i64 m, .int .i64 n, .slice a l cap, .slice b k cap2] w fun e w' => RunPost m n L D w e w' := by
  obtain ⟨_, z1, _, _, g2, g3⟩ := graphE_good hF.g
  have HO := Lib.hid (okG g3)
  have HT := Lib.hid (Gr.topo (okG g3) hF.k)
  have h60 : n ≤ 60 := by omega
  have hl4 : l ≤ 400 := by omega
  have HL := Lib.hid hL
  have HN := Lib.hid hn
  have HD := Lib.hid hD
  have HM := Lib.hid hm
  have HDP : Hid (∀ i, i < n → 0 ≤ dur D i ∧ dur D i ≤ 1000000000) := Lib.hid fun i hi => okD_at hF.d (show D[i]? = some (dur D i) by simp [dur, List.getElem?_eq_getElem (show i < D.length by have := hF.len; omega)])
  have HDX : Hid (∀ i, i < n → D[i]? = some (dur D i)) := Lib.hid fun i hi => by simp [dur, List.getElem?_eq_getElem (show i < D.length by have := hF.len; omega)]
  have HPRE : Hid (∀ (q : Nat) (x y : Int), L[q]? = some (x, y) → 0 ≤ x ∧ x.toNat < n) := Lib.hid fun q x y hx => by
    obtain ⟨q1, q2, q3, q4⟩ := HO.out _ (List.mem_of_getElem? hx)
    simp only at q1 q2
    omega
  obtain rfl : k = n := by have := hF.len; omega
  clear hL hn hD hm hF g3
  have hmkT := run_make_rowN (P := Try.prog) 37 169 _ #[.int .i64 0, .int .i64 0] 2 16 Try.underlying37 infoTurn rfl .i64 .i64 k (by omega) (by omega)
  go_enter Try.func19, Try.ntmps19
  go_wp2_with fail
  obtain ⟨gu, hgu⟩ : ∃ g, g = w.heap.size := ⟨_, rfl⟩
  obtain ⟨w1, hw1⟩ : ∃ W, W = w.alloc (.cells (madeCells #[.int .i64 0, .int .i64 0] (k * 2)) 169) := ⟨_, rfl⟩
  have HR0 : Hid (w1.rowIs gu 169 (2 * k) (turnsF (ini 0) (ini 0))) := Lib.hid (by rw [hw1, hgu]; exact turns_made w k rfl)
  have HB0 : Hid (Below w.heap.size w w1) := Lib.hid (by rw [hw1]; exact (Below.refl _ _).alloc (Nat.le_refl _) _)
  have HGU : Hid (w.heap.size ≤ gu) := Lib.hid (by omega)
  rw [← hw1, ← hgu]
  clear hw1 hgu hmkT
  go_loopw [33] (fun x wr => ∃ i : Nat, i ≤ k ∧ x = .int .i64 i ∧ Hid (wr.rowIs gu 169 (2 * k) (turnsF (ini i) (ini i))) ∧ Hid (Below w.heap.size w wr)) (fun x _ => k - (intOf x).toNat)
  case atStart => exact ⟨0, by omega, rfl, HR0, HB0⟩
  case round =>
    clear HR0 HB0
    obtain ⟨i, hi, rfl, HR0, HB0⟩ := hrel
    by_cases hik : i < k
    · obtain ⟨u1, u2⟩ := turns_at HR0.out hik
      have u3 := HR0.out.frozen (2 * i)
      have u4 := HR0.out.frozen (2 * i + 1)
      have lu := HR0.out.lt
      have h2i : i * 2 = 2 * i := by omega
      go_wp2_with fail
      go_roundw
      case rel => exact ⟨i + 1, by omega, rfl, Lib.hid (by rw [← ini_go]; exact turns_set HR0.out i (-1) (-1)), Lib.hid ((HB0.out.setCell (p := ⟨gu, 2 * i, none⟩) HGU.out _).setCell (p := ⟨gu, 2 * i + 1, none⟩) HGU.out _)⟩
      case measure => simp [intOf]; omega
    · obtain rfl : i = k := by omega
      have HW0 : Hid (RW i gu St.zero w wr) := Lib.hid ⟨HR0.out.congr fun c hc => by
        have e1 : ∀ x, x < i → ini i x = atZ St.zero x := fun x hx => by simp [ini, atZ, St.zero, hx]
        have e2 : ∀ x, x < i → ini i x = hdZ St.zero x := fun x hx => by simp [ini, hdZ, St.zero, hx]
        unfold turnsF
        rw [e1 (c / 2) (by omega)]
        by_cases hc2 : c % 2 = 0
        · rw [if_pos hc2, if_pos hc2]
        · rw [if_neg hc2, if_neg hc2, ← e1 (c / 2) (by omega), e2 (c / 2) (by omega)], HGU.out, HB0.out⟩
      obtain ⟨k, rfl⟩ : ∃ k, k = i := ⟨_, rfl⟩
      clear HR0 HB0
      go_wp2_with fail
      go_loopg [12, 13] (Ls.rounds m k St.zero) (fun g vn ve wr => ∃ (s : St) (t e : Int), vn = .int .i64 t ∧ ve = .int .i64 e ∧ Hid (RW k gu s w wr) ∧ Hid (RT m k L (dur D) s t e g))
      case atStart => exact ⟨St.zero, 0, 0, rfl, rfl, HW0, Lib.hid ⟨Inv.zero m k (dur D), fun _ h => h, rfl, Int.le_refl _, Int.le_refl _, Nat.le_refl _⟩⟩
      case round =>
        clear HW0
        obtain ⟨s, t, e, rfl, rfl, HW, HRT⟩ := hrel
        obtain ⟨gq, rfl⟩ : ∃ q, q = gk := ⟨_, rfl⟩
        have HRS0 := Lib.hid HRT.out.begin
        go_wp2_with fail
        go_loopg [14] (2 * k + 1) (fun z v wx => ∃ (s : St) (f : Bool), v = .bool f ∧ Hid (RW k gu s w wx) ∧ Hid (RS m k L (dur D) s t e f z gq))
        case atStart => exact ⟨s, true, rfl, HW, HRS0⟩
        case round =>
          clear HW HRS0 HRT s
          obtain ⟨s, f, rfl, HW, HRS⟩ := hrel
          cases f with
          | true =>
            by_cases hh : 0 ≤ handI m s
            · obtain ⟨h, hhe⟩ := Int.eq_ofNat_of_zero_le hh
              have HHV : Hid (handI m s = (h : Int)) := Lib.hid hhe
              clear hhe hh
              by_cases hr : 0 ≤ readyI k L (dur D) s
              · obtain ⟨i, hie⟩ := Int.eq_ofNat_of_zero_le hr
                have HRV : Hid (readyI k L (dur D) s = (i : Int)) := Lib.hid hie
                clear hie hr
                go_wp2_with fail
                obtain ⟨Wo, hWo⟩ : ∃ W, W = wr := ⟨_, rfl⟩
                subst hWo
                go_loopw [15, 43] (fun v x wx => ∃ j : Nat, j ≤ m ∧ x = .int .i64 j ∧ v = .int .i64 (-1) ∧ Hid (∀ z, z < j → freeP s z = false) ∧ Below Wo.heap.size Wo wx) (fun _ x _ => m - (intOf x).toNat)
                case atStart => exact ⟨0, by omega, rfl, rfl, Lib.hid (fun z hz => absurd hz (by omega)), Below.refl _ _⟩
                case round =>
                  obtain ⟨j, hj, rfl, rfl, HNF, hB⟩ := hrel
                  have hsz := hB.size
                  by_cases hjm : j < m
                  · obtain ⟨Wp, hWp⟩ : ∃ W, W = wr := ⟨_, rfl⟩
                    subst hWp
                    have HBE := Lib.hid (busyK_end HRS.out.inv hjm)
                    have HST : Hid (busyK (dur D) s j 0 = false) := Lib.hid rfl
                    go_wp2_with fail
                    go_loopw [17, 48] (fun v x wx => ∃ q : Nat, q ≤ k ∧ x = .int .i64 q ∧ v = .bool (busyK (dur D) s j q) ∧ Below Wp.heap.size Wp wx) (fun _ x _ => k - (intOf x).toNat)
                    case atStart => exact ⟨0, by omega, rfl, by rw [HST.out], Below.refl _ _⟩
                    case round =>
                      obtain ⟨q, hq, rfl, rfl, hB2⟩ := hrel
                      have hsz2 := hB2.size
                      by_cases hqk : q < k
                      · have HBT := hB.trans (hB2.mono hsz)
                        have HW2 := Lib.hid (HW.out.step HBT)
                        obtain ⟨c0, c1⟩ := turns_at HW2.out.turns hqk
                        have lgu := HW2.out.turns.lt
                        have h2q : q * 2 = 2 * q := by omega
                        have HGO := Lib.hid (busyK_go (dur D) s j q)
                        obtain ⟨W, hW⟩ : ∃ W, W = wr.alloc (.cells #[.int .i64 (atZ s q), .int .i64 (hdZ s q)] 169) := ⟨_, rfl⟩
                        have hBW : Below wr.heap.size wr W := by rw [hW]; exact (Below.refl _ _).alloc (Nat.le_refl _) _
                        have g0 : W.cell? ⟨wr.heap.size, 0, none⟩ = some (.int .i64 (atZ s q)) := by rw [hW]; simp
                        have g1 : W.cell? ⟨wr.heap.size, 1, none⟩ = some (.int .i64 (hdZ s q)) := by rw [hW]; simp
                        have g2 : wr.heap.size < W.heap.size := by rw [hW]; simp
                        have HBD := Lib.hid ((HW2.out.step hBW).below)
                        obtain ⟨bd, od, rfl, hbd, hatd⟩ := HD.out (by simp [ints]; have := HM.out; omega)
                        have d1 := (HBD.out.cell (p := ⟨bd, od + q, none⟩) hbd).trans (hatd q (.int .i64 (dur D q)) (by simp [ints, HDX.out q hqk]))
                        have lbd : bd < W.heap.size := by have := HBD.out.size; omega
                        have hi1 : (0 : Int) ≤ (q : Int) := by omega
                        have hi2 : (q : Int) < (k : Int) := by omega
                        have HWE := Lib.hid hW
                        have HB3 := Lib.hid (hB2.trans (hBW.mono hsz2))
                        clear hatd hBW hW
                        cases hbz : busyK (dur D) s j q with
                        | true =>
                          have HB4 : Hid (busyK (dur D) s j (q + 1) = true) := Lib.hid (by rw [HGO.out, hbz]; rfl)
                          clear hbz
                          go_wp2_with fail
                          rw [← HWE.out]
                          go_quiet (fail)
                          go_wp2_with fail
                          go_roundw
                          case rel => exact ⟨q + 1, by omega, rfl, by rw [HB4.out], by refine below_drewN ?_ _; exact HB3.out⟩
                          case measure => simp [intOf]; omega
                        | false =>
                          cases hhd : (hdZ s q == (j : Int)) with
                          | false =>
                            have HB4 : Hid (busyK (dur D) s j (q + 1) = false) := Lib.hid (by rw [HGO.out, hbz]; simp [busyB, hhd])
                            clear hbz
                            go_wp2_with fail
                            rw [← HWE.out]
                            go_quiet (fail)
                            go_wp2_with fail
                            go_roundw
                            case rel => exact ⟨q + 1, by omega, rfl, by rw [HB4.out], by refine below_drewN ?_ _; exact HB3.out⟩
                            case measure => simp [intOf]; omega
                          | true =>
                            have hbq : s.beg q = true := by
                              cases hb : s.beg q with
                              | true => rfl
                              | false =>
                                exfalso
                                have := eq_of_beq hhd
                                rw [hdZ_off hb] at this
                                omega
                            obtain ⟨s1, s2⟩ := ended_sum HRS.out.inv h60 HDP.out hqk hbq
                            have hw1 : IntKind.i64.wrap (atZ s q + dur D q) = atZ s q + dur D q := IntWalk.i64_in _ (by rw [atZ_on hbq]; omega)
                            have HB4 : Hid (busyK (dur D) s j (q + 1) = decide (atZ s q + dur D q > t)) := Lib.hid (by rw [HGO.out, hbz]; simp [busyB, hhd, HRS.out.now])
                            clear hbz hbq s1 s2
                            go_wp2_with fail
                            rw [← HWE.out]
                            go_quiet (fail)
                            go_wp2_with fail
                            go_roundw
                            case rel => exact ⟨q + 1, by omega, rfl, by rw [HB4.out], by refine below_drewN ?_ _; exact HB3.out⟩
                            case measure => simp [intOf]; omega
                      · have hqe : q = k := by omega
                        subst hqe
                        have HBT := hB.trans (hB2.mono hsz)
                        cases hfp : freeP s j with
                        | true =>
                          have HBE2 := Lib.hid (HBE.out.trans (by rw [hfp]))
                          have HHF : Hid (handI m s = (j : Int)) := Lib.hid (leastI_some hjm hfp HNF.out)
                          rw [HBE2.out]
                          clear hfp
                          have HJH : Hid (j = h) := Lib.hid (by have x1 := HHF.out; have x2 := HHV.out; omega)
                          have HJH2 := HJH.out
                          subst HJH2
                          obtain ⟨h, rfl⟩ : ∃ h, h = j := ⟨_, rfl⟩
                          have HW3 := Lib.hid (HW.out.step HBT)
                          go_wp2_with fail
                          obtain ⟨Wj, hWj⟩ : ∃ W, W = wr := ⟨_, rfl⟩
                          subst hWj
                          go_loopw [14, 77] (fun v x wx => ∃ i : Nat, i ≤ q ∧ x = .int .i64 i ∧ v = .bool false ∧ Hid (∀ z, z < i → readyP L (dur D) s z = false) ∧ Below Wj.heap.size Wj wx) (fun _ x _ => q - (intOf x).toNat)
                          case atStart => exact ⟨0, by omega, rfl, rfl, Lib.hid (fun z hz => absurd hz (by omega)), Below.refl _ _⟩
                          case round =>
                            obtain ⟨i', hi, rfl, rfl, HNR, hB3⟩ := hrel
                            obtain ⟨k, rfl⟩ : ∃ k, k = q := ⟨_, rfl⟩
                            have hsz3 := hB3.size
                            by_cases hik : i' < k
                            · have HW4 := Lib.hid (HW3.out.step hB3)
                              obtain ⟨c0, c1⟩ := turns_at HW4.out.turns hik
                              have lgu := HW4.out.turns.lt
                              have h2q : i' * 2 = 2 * i' := by omega
                              have hi1 : (0 : Int) ≤ (i' : Int) := by omega
                              have hi2 : (i' : Int) < (k : Int) := by omega
                              have hh0 : decide ((h : Int) < 0) = false := by simp
                              have HGE := Lib.hid (atZ_ge HRS.out.inv hik)
                              cases hbg : s.beg i' with
                              | true =>
                                have hge : decide (atZ s i' ≥ 0) = true := by rw [HGE.out]; exact hbg
                                have HNR2 : Hid (∀ z, z < i' + 1 → readyP L (dur D) s z = false) := Lib.hid fun z hz => by
                                  by_cases e : z = i'
                                  · rw [e]; exact readyP_off hbg
                                  · exact HNR.out z (by omega)
                                clear hbg
                                go_wp2_with fail
                                go_roundw
                                case rel => exact ⟨i' + 1, by omega, rfl, rfl, HNR2, hB3⟩
                                case measure => simp [intOf]; omega
                              | false =>
                                have hge : decide (atZ s i' ≥ 0) = false := by rw [HGE.out]; exact hbg
                                have HRP := Lib.hid (readyP_on (L := L) (d := dur D) hbg)
                                have HOE := Lib.hid (okQ_end L (dur D) s i')
                                have HOS : Hid (okQ L (dur D) s i' 0 = true) := Lib.hid (by simp [okQ])
                                obtain ⟨Wk, hWk⟩ : ∃ W, W = wr := ⟨_, rfl⟩
                                subst hWk
                                have HBG := Lib.hid hbg
                                clear hbg
                                go_wp2_with fail
                                go_loopw [21, 92] (fun v x wx => ∃ p : Nat, p ≤ l ∧ x = .int .i64 p ∧ v = .bool (okQ L (dur D) s i' p) ∧ Below Wk.heap.size Wk wx) (fun _ x _ => l - (intOf x).toNat)
                                case atStart => exact ⟨0, by omega, rfl, by rw [HOS.out], Below.refl _ _⟩
                                case round =>
                                  obtain ⟨p, hp, rfl, rfl, hB5⟩ := hrel
                                  have hsz5 := hB5.size
                                  have HB6 := Lib.hid (hB3.trans (hB5.mono hsz3))
                                  have HW5 := Lib.hid (HW3.out.step HB6.out)
                                  by_cases hpl : p < l
                                  · have HLW := Lib.hid (HL.out.below HW5.out.below (Nat.le_refl _))
                                    obtain ⟨b0, off, ea, hb, hat⟩ := HLW.out (by have := HN.out; omega)
                                    subst ea
                                    obtain ⟨⟨x, y⟩, hx⟩ : ∃ x, L[p]? = some x := ⟨_, List.getElem?_eq_getElem (by have := HN.out; omega)⟩
                                    obtain ⟨q0, q1⟩ := hat p x y hx
                                    obtain ⟨x0, xn⟩ := HPRE.out p x y hx
                                    obtain ⟨c, rfl⟩ := Int.eq_ofNat_of_zero_le x0
                                    rw [Int.toNat_natCast] at xn
                                    have HX := Lib.hid hx
                                    have HGO := Lib.hid (okQ_go (d := dur D) (s := s) (i := i') hx)
                                    obtain ⟨W, hW⟩ : ∃ W, W = wr.alloc (.cells #[.int .i64 (c : Int), .int .i64 y] 66) := ⟨_, rfl⟩
                                    have hBW : Below wr.heap.size wr W := by rw [hW]; exact (Below.refl _ _).alloc (Nat.le_refl _) _
                                    have g0 : W.cell? ⟨wr.heap.size, 0, none⟩ = some (.int .i64 (c : Int)) := by rw [hW]; simp
                                    have g1 : W.cell? ⟨wr.heap.size, 1, none⟩ = some (.int .i64 y) := by rw [hW]; simp
                                    have g2 : wr.heap.size < W.heap.size := by rw [hW]; simp
                                    have HW7 := Lib.hid (HW5.out.step hBW)
                                    obtain ⟨t0, t1⟩ := turns_at HW7.out.turns xn
                                    have lgw := HW7.out.turns.lt
                                    have h2c : c * 2 = 2 * c := by omega
                                    obtain ⟨bd, od, eb, hbd, hatd⟩ := HD.out (by simp [ints]; have := HM.out; omega)
                                    have d1 := (HW7.out.below.cell (p := ⟨bd, od + c, none⟩) hbd).trans (hatd c (.int .i64 (dur D c)) (by simp [ints, HDX.out c xn]))
                                    have lbd : bd < W.heap.size := by have := HW7.out.below.size; omega
                                    have hc1 : (0 : Int) ≤ (c : Int) := by omega
                                    have hc2 : (c : Int) < (k : Int) := by omega
                                    have HWE := Lib.hid hW
                                    have HB8 := Lib.hid (hB5.trans (hBW.mono hsz5))
                                    subst eb
                                    clear hatd hBW hW hat hx
                                    cases hy : (y == (i' : Int)) with
                                    | false =>
                                      have HGO2 : Hid (okQ L (dur D) s i' (p + 1) = okQ L (dur D) s i' p) := Lib.hid (by rw [HGO.out]; simp [waitsE, hy])
                                      go_wp2_with fail
                                      rw [← HWE.out]
                                      go_quiet (fail)
                                      go_wp2_with fail
                                      go_roundw
                                      case rel => exact ⟨p + 1, by omega, rfl, by rw [HGO2.out], by refine below_drewN ?_ _; exact HB8.out⟩
                                      case measure => simp [intOf]; omega
                                    | true =>
                                      cases hbc : s.beg c with
                                      | false =>
                                        have hlt : decide (atZ s c < 0) = true := by rw [atZ_off hbc]; rfl
                                        have HGO2 : Hid (okQ L (dur D) s i' (p + 1) = false) := Lib.hid (by rw [HGO.out]; simp [waitsE, hy, endedP, hbc])
                                        clear hbc
                                        go_wp2_with fail
                                        rw [← HWE.out]
                                        go_quiet (fail)
                                        go_wp2_with fail
                                        go_roundw
                                        case rel => exact ⟨p + 1, by omega, rfl, by rw [HGO2.out], by refine below_drewN ?_ _; exact HB8.out⟩
                                        case measure => simp [intOf]; omega
                                      | true =>
                                        have hlt : decide (atZ s c < 0) = false := by rw [atZ_lt HRS.out.inv xn, hbc]; rfl
                                        obtain ⟨s1, s2⟩ := ended_sum HRS.out.inv h60 HDP.out xn hbc
                                        have hw1 : IntKind.i64.wrap (atZ s c + dur D c) = atZ s c + dur D c := IntWalk.i64_in _ (by rw [atZ_on hbc]; omega)
                                        by_cases hen : atZ s c + dur D c > t
                                        · have henb : decide (atZ s c + dur D c > t) = true := by simp [hen]
                                          have HGO2 : Hid (okQ L (dur D) s i' (p + 1) = false) := Lib.hid (by rw [HGO.out]; rw [atZ_on hbc] at hen; have := HRS.out.now; simp [waitsE, hy, endedP, hbc]; intro _; omega)
                                          clear hbc s1 s2 hen
                                          go_wp2_with fail
                                          rw [← HWE.out]
                                          go_quiet (fail)
                                          go_wp2_with fail
                                          go_roundw
                                          case rel => exact ⟨p + 1, by omega, rfl, by rw [HGO2.out], by refine below_drewN ?_ _; exact HB8.out⟩
                                          case measure => simp [intOf]; omega
                                        · have henb : decide (atZ s c + dur D c > t) = false := by simp [hen]
                                          have HGO2 : Hid (okQ L (dur D) s i' (p + 1) = okQ L (dur D) s i' p) := Lib.hid (by rw [HGO.out]; rw [atZ_on hbc] at hen; have := HRS.out.now; simp [waitsE, hy, endedP, hbc]; intro _; omega)
                                          clear hbc s1 s2 hen
                                          go_wp2_with fail
                                          rw [← HWE.out]
                                          go_quiet (fail)
                                          go_wp2_with fail
                                          go_roundw
                                          case rel => exact ⟨p + 1, by omega, rfl, by rw [HGO2.out], by refine below_drewN ?_ _; exact HB8.out⟩
                                          case measure => simp [intOf]; omega
                                  · replace HOE := Lib.hid (show okQ L (dur D) s i' p = !(L.any (waitsE (dur D) s i')) from by rw [show p = L.length from by have := HN.out; omega]; exact HOE.out)
                                    cases hok : okQ L (dur D) s i' p with
                                    | true =>
                                      have HOK := Lib.hid hok
                                      clear hok
                                      have HII : Hid (i' = i) := Lib.hid (by have h1 : readyI k L (dur D) s = (i' : Int) := leastI_some hik (by rw [HRP.out, ← HOE.out]; exact HOK.out) HNR.out; have h2 := HRV.out; omega)
                                      have HII2 := HII.out
                                      subst HII2
                                      have HGO2 := Lib.hid (HRS.out.go HDP.out (by omega) rfl HHV.out HRV.out)
                                      have HW6 := Lib.hid (HW5.out.put (d := dur D) i' h)
                                      have HNOW := Lib.hid HRS.out.now
                                      rw [HNOW.out] at HW6
                                      obtain ⟨u1, u2⟩ := turns_at HW5.out.turns hik
                                      have u3 := HW5.out.turns.frozen (2 * i')
                                      have u4 := HW5.out.turns.frozen (2 * i' + 1)
                                      have lgu5 := HW5.out.turns.lt
                                      go_wp2_with fail
                                      go_roundg (gk - 1)
                                      case measure => have := HGO2.out.1; omega
                                      case rel => exact ⟨s.put (dur D) i' h, true, rfl, HW6, Lib.hid HGO2.out.2⟩
                                    | false =>
                                      have HNR2 : Hid (∀ z, z < i' + 1 → readyP L (dur D) s z = false) := Lib.hid fun z hz => by
                                        by_cases e : z = i'
                                        · rw [e, HRP.out, ← HOE.out]; exact hok
                                        · exact HNR.out z (by omega)
                                      clear hok
                                      go_wp2_with fail
                                      go_roundw
                                      case rel => exact ⟨i' + 1, by omega, rfl, rfl, HNR2, HB6.out⟩
                                      case measure => simp [intOf]; omega
                            · exfalso
                              have h1 : readyI k L (dur D) s = -1 := leastI_none (by have h := HNR.out; rwa [show i' = k by omega] at h)
                              have h2 := HRV.out
                              omega
                        | false =>
                          have HBE2 := Lib.hid (HBE.out.trans (by rw [hfp]))
                          have HNF2 : Hid (∀ z, z < j + 1 → freeP s z = false) := Lib.hid fun z hz => by
                            by_cases e : z = j
                            · rw [e]; exact hfp
                            · exact HNF.out z (by omega)
                          rw [HBE2.out]
                          clear hfp
                          go_wp2_with fail
                          go_roundw
                          case rel => exact ⟨j + 1, by omega, rfl, rfl, HNF2, HBT⟩
                          case measure => simp [intOf]; omega
                  · have HEND : Hid (handI m s = -1) := Lib.hid (leastI_none (by have h := HNF.out; rwa [show j = m by omega] at h))
                    exfalso
                    have x1 := HEND.out
                    have x2 := HHV.out
                    omega
              · have HRV : Hid (readyI k L (dur D) s = -1) := Lib.hid (by rcases leastI_cases (readyP L (dur D) s) k with ⟨i, _, e, _⟩ | ⟨e, _⟩ <;> (unfold readyI at hr ⊢; omega))
                clear hr
                go_wp2_with fail
                obtain ⟨Wo, hWo⟩ : ∃ W, W = wr := ⟨_, rfl⟩
                subst hWo
                go_loopw [15, 43] (fun v x wx => ∃ j : Nat, j ≤ m ∧ x = .int .i64 j ∧ v = .int .i64 (-1) ∧ Hid (∀ z, z < j → freeP s z = false) ∧ Below Wo.heap.size Wo wx) (fun _ x _ => m - (intOf x).toNat)
                case atStart => exact ⟨0, by omega, rfl, rfl, Lib.hid (fun z hz => absurd hz (by omega)), Below.refl _ _⟩
                case round =>
                  obtain ⟨j, hj, rfl, rfl, HNF, hB⟩ := hrel
                  have hsz := hB.size
                  by_cases hjm : j < m
                  · obtain ⟨Wp, hWp⟩ : ∃ W, W = wr := ⟨_, rfl⟩
                    subst hWp
                    have HBE := Lib.hid (busyK_end HRS.out.inv hjm)
                    have HST : Hid (busyK (dur D) s j 0 = false) := Lib.hid rfl
                    go_wp2_with fail
                    go_loopw [17, 48] (fun v x wx => ∃ q : Nat, q ≤ k ∧ x = .int .i64 q ∧ v = .bool (busyK (dur D) s j q) ∧ Below Wp.heap.size Wp wx) (fun _ x _ => k - (intOf x).toNat)
                    case atStart => exact ⟨0, by omega, rfl, by rw [HST.out], Below.refl _ _⟩
                    case round =>
                      obtain ⟨q, hq, rfl, rfl, hB2⟩ := hrel
                      have hsz2 := hB2.size
                      by_cases hqk : q < k
                      · have HBT := hB.trans (hB2.mono hsz)
                        have HW2 := Lib.hid (HW.out.step HBT)
                        obtain ⟨c0, c1⟩ := turns_at HW2.out.turns hqk
                        have lgu := HW2.out.turns.lt
                        have h2q : q * 2 = 2 * q := by omega
                        have HGO := Lib.hid (busyK_go (dur D) s j q)
                        obtain ⟨W, hW⟩ : ∃ W, W = wr.alloc (.cells #[.int .i64 (atZ s q), .int .i64 (hdZ s q)] 169) := ⟨_, rfl⟩
                        have hBW : Below wr.heap.size wr W := by rw [hW]; exact (Below.refl _ _).alloc (Nat.le_refl _) _
                        have g0 : W.cell? ⟨wr.heap.size, 0, none⟩ = some (.int .i64 (atZ s q)) := by rw [hW]; simp
                        have g1 : W.cell? ⟨wr.heap.size, 1, none⟩ = some (.int .i64 (hdZ s q)) := by rw [hW]; simp
                        have g2 : wr.heap.size < W.heap.size := by rw [hW]; simp
                        have HBD := Lib.hid ((HW2.out.step hBW).below)
                        obtain ⟨bd, od, rfl, hbd, hatd⟩ := HD.out (by simp [ints]; have := HM.out; omega)
                        have d1 := (HBD.out.cell (p := ⟨bd, od + q, none⟩) hbd).trans (hatd q (.int .i64 (dur D q)) (by simp [ints, HDX.out q hqk]))
                        have lbd : bd < W.heap.size := by have := HBD.out.size; omega
                        have hi1 : (0 : Int) ≤ (q : Int) := by omega
                        have hi2 : (q : Int) < (k : Int) := by omega
                        have HWE := Lib.hid hW
                        have HB3 := Lib.hid (hB2.trans (hBW.mono hsz2))
                        clear hatd hBW hW
                        cases hbz : busyK (dur D) s j q with
                        | true =>
                          have HB4 : Hid (busyK (dur D) s j (q + 1) = true) := Lib.hid (by rw [HGO.out, hbz]; rfl)
                          clear hbz
                          go_wp2_with fail
                          rw [← HWE.out]
                          go_quiet (fail)
                          go_wp2_with fail
                          go_roundw
                          case rel => exact ⟨q + 1, by omega, rfl, by rw [HB4.out], by refine below_drewN ?_ _; exact HB3.out⟩
                          case measure => simp [intOf]; omega
                        | false =>
                          cases hhd : (hdZ s q == (j : Int)) with
                          | false =>
                            have HB4 : Hid (busyK (dur D) s j (q + 1) = false) := Lib.hid (by rw [HGO.out, hbz]; simp [busyB, hhd])
                            clear hbz
                            go_wp2_with fail
                            rw [← HWE.out]
                            go_quiet (fail)
                            go_wp2_with fail
                            go_roundw
                            case rel => exact ⟨q + 1, by omega, rfl, by rw [HB4.out], by refine below_drewN ?_ _; exact HB3.out⟩
                            case measure => simp [intOf]; omega
                          | true =>
                            have hbq : s.beg q = true := by
                              cases hb : s.beg q with
                              | true => rfl
                              | false =>
                                exfalso
                                have := eq_of_beq hhd
                                rw [hdZ_off hb] at this
                                omega
                            obtain ⟨s1, s2⟩ := ended_sum HRS.out.inv h60 HDP.out hqk hbq
                            have hw1 : IntKind.i64.wrap (atZ s q + dur D q) = atZ s q + dur D q := IntWalk.i64_in _ (by rw [atZ_on hbq]; omega)
                            have HB4 : Hid (busyK (dur D) s j (q + 1) = decide (atZ s q + dur D q > t)) := Lib.hid (by rw [HGO.out, hbz]; simp [busyB, hhd, HRS.out.now])
                            clear hbz hbq s1 s2
                            go_wp2_with fail
                            rw [← HWE.out]
                            go_quiet (fail)
                            go_wp2_with fail
                            go_roundw
                            case rel => exact ⟨q + 1, by omega, rfl, by rw [HB4.out], by refine below_drewN ?_ _; exact HB3.out⟩
                            case measure => simp [intOf]; omega
                      · have hqe : q = k := by omega
                        subst hqe
                        have HBT := hB.trans (hB2.mono hsz)
                        cases hfp : freeP s j with
                        | true =>
                          have HBE2 := Lib.hid (HBE.out.trans (by rw [hfp]))
                          have HHF : Hid (handI m s = (j : Int)) := Lib.hid (leastI_some hjm hfp HNF.out)
                          rw [HBE2.out]
                          clear hfp
                          have HJH : Hid (j = h) := Lib.hid (by have x1 := HHF.out; have x2 := HHV.out; omega)
                          have HJH2 := HJH.out
                          subst HJH2
                          obtain ⟨h, rfl⟩ : ∃ h, h = j := ⟨_, rfl⟩
                          have HW3 := Lib.hid (HW.out.step HBT)
                          go_wp2_with fail
                          obtain ⟨Wj, hWj⟩ : ∃ W, W = wr := ⟨_, rfl⟩
                          subst hWj
                          go_loopw [14, 77] (fun v x wx => ∃ i : Nat, i ≤ q ∧ x = .int .i64 i ∧ v = .bool false ∧ Hid (∀ z, z < i → readyP L (dur D) s z = false) ∧ Below Wj.heap.size Wj wx) (fun _ x _ => q - (intOf x).toNat)
                          case atStart => exact ⟨0, by omega, rfl, rfl, Lib.hid (fun z hz => absurd hz (by omega)), Below.refl _ _⟩
                          case round =>
                            obtain ⟨i', hi, rfl, rfl, HNR, hB3⟩ := hrel
                            obtain ⟨k, rfl⟩ : ∃ k, k = q := ⟨_, rfl⟩
                            have hsz3 := hB3.size
                            by_cases hik : i' < k
                            · have HW4 := Lib.hid (HW3.out.step hB3)
                              obtain ⟨c0, c1⟩ := turns_at HW4.out.turns hik
                              have lgu := HW4.out.turns.lt
                              have h2q : i' * 2 = 2 * i' := by omega
                              have hi1 : (0 : Int) ≤ (i' : Int) := by omega
                              have hi2 : (i' : Int) < (k : Int) := by omega
                              have hh0 : decide ((h : Int) < 0) = false := by simp
                              have HGE := Lib.hid (atZ_ge HRS.out.inv hik)
                              cases hbg : s.beg i' with
                              | true =>
                                have hge : decide (atZ s i' ≥ 0) = true := by rw [HGE.out]; exact hbg
                                have HNR2 : Hid (∀ z, z < i' + 1 → readyP L (dur D) s z = false) := Lib.hid fun z hz => by
                                  by_cases e : z = i'
                                  · rw [e]; exact readyP_off hbg
                                  · exact HNR.out z (by omega)
                                clear hbg
                                go_wp2_with fail
                                go_roundw
                                case rel => exact ⟨i' + 1, by omega, rfl, rfl, HNR2, hB3⟩
                                case measure => simp [intOf]; omega
                              | false =>
                                have hge : decide (atZ s i' ≥ 0) = false := by rw [HGE.out]; exact hbg
                                have HRP := Lib.hid (readyP_on (L := L) (d := dur D) hbg)
                                have HOE := Lib.hid (okQ_end L (dur D) s i')
                                have HOS : Hid (okQ L (dur D) s i' 0 = true) := Lib.hid (by simp [okQ])
                                obtain ⟨Wk, hWk⟩ : ∃ W, W = wr := ⟨_, rfl⟩
                                subst hWk
                                have HBG := Lib.hid hbg
                                clear hbg
                                go_wp2_with fail
                                go_loopw [21, 92] (fun v x wx => ∃ p : Nat, p ≤ l ∧ x = .int .i64 p ∧ v = .bool (okQ L (dur D) s i' p) ∧ Below Wk.heap.size Wk wx) (fun _ x _ => l - (intOf x).toNat)
                                case atStart => exact ⟨0, by omega, rfl, by rw [HOS.out], Below.refl _ _⟩
                                case round =>
                                  obtain ⟨p, hp, rfl, rfl, hB5⟩ := hrel
                                  have hsz5 := hB5.size
                                  have HB6 := Lib.hid (hB3.trans (hB5.mono hsz3))
                                  have HW5 := Lib.hid (HW3.out.step HB6.out)
                                  by_cases hpl : p < l
                                  · have HLW := Lib.hid (HL.out.below HW5.out.below (Nat.le_refl _))
                                    obtain ⟨b0, off, ea, hb, hat⟩ := HLW.out (by have := HN.out; omega)
                                    subst ea
                                    obtain ⟨⟨x, y⟩, hx⟩ : ∃ x, L[p]? = some x := ⟨_, List.getElem?_eq_getElem (by have := HN.out; omega)⟩
                                    obtain ⟨q0, q1⟩ := hat p x y hx
                                    obtain ⟨x0, xn⟩ := HPRE.out p x y hx
                                    obtain ⟨c, rfl⟩ := Int.eq_ofNat_of_zero_le x0
                                    rw [Int.toNat_natCast] at xn
                                    have HX := Lib.hid hx
                                    have HGO := Lib.hid (okQ_go (d := dur D) (s := s) (i := i') hx)
                                    obtain ⟨W, hW⟩ : ∃ W, W = wr.alloc (.cells #[.int .i64 (c : Int), .int .i64 y] 66) := ⟨_, rfl⟩
                                    have hBW : Below wr.heap.size wr W := by rw [hW]; exact (Below.refl _ _).alloc (Nat.le_refl _) _
                                    have g0 : W.cell? ⟨wr.heap.size, 0, none⟩ = some (.int .i64 (c : Int)) := by rw [hW]; simp
                                    have g1 : W.cell? ⟨wr.heap.size, 1, none⟩ = some (.int .i64 y) := by rw [hW]; simp
                                    have g2 : wr.heap.size < W.heap.size := by rw [hW]; simp
                                    have HW7 := Lib.hid (HW5.out.step hBW)
                                    obtain ⟨t0, t1⟩ := turns_at HW7.out.turns xn
                                    have lgw := HW7.out.turns.lt
                                    have h2c : c * 2 = 2 * c := by omega
                                    obtain ⟨bd, od, eb, hbd, hatd⟩ := HD.out (by simp [ints]; have := HM.out; omega)
                                    have d1 := (HW7.out.below.cell (p := ⟨bd, od + c, none⟩) hbd).trans (hatd c (.int .i64 (dur D c)) (by simp [ints, HDX.out c xn]))
                                    have lbd : bd < W.heap.size := by have := HW7.out.below.size; omega
                                    have hc1 : (0 : Int) ≤ (c : Int) := by omega
                                    have hc2 : (c : Int) < (k : Int) := by omega
                                    have HWE := Lib.hid hW
                                    have HB8 := Lib.hid (hB5.trans (hBW.mono hsz5))
                                    subst eb
                                    clear hatd hBW hW hat hx
                                    cases hy : (y == (i' : Int)) with
                                    | false =>
                                      have HGO2 : Hid (okQ L (dur D) s i' (p + 1) = okQ L (dur D) s i' p) := Lib.hid (by rw [HGO.out]; simp [waitsE, hy])
                                      go_wp2_with fail
                                      rw [← HWE.out]
                                      go_quiet (fail)
                                      go_wp2_with fail
                                      go_roundw
                                      case rel => exact ⟨p + 1, by omega, rfl, by rw [HGO2.out], by refine below_drewN ?_ _; exact HB8.out⟩
                                      case measure => simp [intOf]; omega
                                    | true =>
                                      cases hbc : s.beg c with
                                      | false =>
                                        have hlt : decide (atZ s c < 0) = true := by rw [atZ_off hbc]; rfl
                                        have HGO2 : Hid (okQ L (dur D) s i' (p + 1) = false) := Lib.hid (by rw [HGO.out]; simp [waitsE, hy, endedP, hbc])
                                        clear hbc
                                        go_wp2_with fail
                                        rw [← HWE.out]
                                        go_quiet (fail)
                                        go_wp2_with fail
                                        go_roundw
                                        case rel => exact ⟨p + 1, by omega, rfl, by rw [HGO2.out], by refine below_drewN ?_ _; exact HB8.out⟩
                                        case measure => simp [intOf]; omega
                                      | true =>
                                        have hlt : decide (atZ s c < 0) = false := by rw [atZ_lt HRS.out.inv xn, hbc]; rfl
                                        obtain ⟨s1, s2⟩ := ended_sum HRS.out.inv h60 HDP.out xn hbc
                                        have hw1 : IntKind.i64.wrap (atZ s c + dur D c) = atZ s c + dur D c := IntWalk.i64_in _ (by rw [atZ_on hbc]; omega)
                                        by_cases hen : atZ s c + dur D c > t
                                        · have henb : decide (atZ s c + dur D c > t) = true := by simp [hen]
                                          have HGO2 : Hid (okQ L (dur D) s i' (p + 1) = false) := Lib.hid (by rw [HGO.out]; rw [atZ_on hbc] at hen; have := HRS.out.now; simp [waitsE, hy, endedP, hbc]; intro _; omega)
                                          clear hbc s1 s2 hen
                                          go_wp2_with fail
                                          rw [← HWE.out]
                                          go_quiet (fail)
                                          go_wp2_with fail
                                          go_roundw
                                          case rel => exact ⟨p + 1, by omega, rfl, by rw [HGO2.out], by refine below_drewN ?_ _; exact HB8.out⟩
                                          case measure => simp [intOf]; omega
                                        · have henb : decide (atZ s c + dur D c > t) = false := by simp [hen]
                                          have HGO2 : Hid (okQ L (dur D) s i' (p + 1) = okQ L (dur D) s i' p) := Lib.hid (by rw [HGO.out]; rw [atZ_on hbc] at hen; have := HRS.out.now; simp [waitsE, hy, endedP, hbc]; intro _; omega)
                                          clear hbc s1 s2 hen
                                          go_wp2_with fail
                                          rw [← HWE.out]
                                          go_quiet (fail)
                                          go_wp2_with fail
                                          go_roundw
                                          case rel => exact ⟨p + 1, by omega, rfl, by rw [HGO2.out], by refine below_drewN ?_ _; exact HB8.out⟩
                                          case measure => simp [intOf]; omega
                                  · replace HOE := Lib.hid (show okQ L (dur D) s i' p = !(L.any (waitsE (dur D) s i')) from by rw [show p = L.length from by have := HN.out; omega]; exact HOE.out)
                                    cases hok : okQ L (dur D) s i' p with
                                    | true =>
                                      have HOK := Lib.hid hok
                                      clear hok
                                      exfalso
                                      have h1 : readyI k L (dur D) s = (i' : Int) := leastI_some hik (by rw [HRP.out, ← HOE.out]; exact HOK.out) HNR.out
                                      have h2 := HRV.out
                                      omega
                                    | false =>
                                      have HNR2 : Hid (∀ z, z < i' + 1 → readyP L (dur D) s z = false) := Lib.hid fun z hz => by
                                        by_cases e : z = i'
                                        · rw [e, HRP.out, ← HOE.out]; exact hok
                                        · exact HNR.out z (by omega)
                                      clear hok
                                      go_wp2_with fail
                                      go_roundw
                                      case rel => exact ⟨i' + 1, by omega, rfl, rfl, HNR2, HB6.out⟩
                                      case measure => simp [intOf]; omega
                            · have HSTOP := Lib.hid (HRS.out.stop rfl (.inr (by rw [HRV.out]; omega)))
                              go_wp2_with fail
                              go_roundg (gk - 1)
                              case measure => have := HSTOP.out.1; omega
                              case rel => exact ⟨s, false, rfl, Lib.hid (HW3.out.step hB3), Lib.hid HSTOP.out.2⟩
                        | false =>
                          have HBE2 := Lib.hid (HBE.out.trans (by rw [hfp]))
                          have HNF2 : Hid (∀ z, z < j + 1 → freeP s z = false) := Lib.hid fun z hz => by
                            by_cases e : z = j
                            · rw [e]; exact hfp
                            · exact HNF.out z (by omega)
                          rw [HBE2.out]
                          clear hfp
                          go_wp2_with fail
                          go_roundw
                          case rel => exact ⟨j + 1, by omega, rfl, rfl, HNF2, HBT⟩
                          case measure => simp [intOf]; omega
                  · have HEND : Hid (handI m s = -1) := Lib.hid (leastI_none (by have h := HNF.out; rwa [show j = m by omega] at h))
                    exfalso
                    have x1 := HEND.out
                    have x2 := HHV.out
                    omega
            · have HHV : Hid (handI m s = -1) := Lib.hid (by rcases leastI_cases (freeP s) m with ⟨i, _, e, _⟩ | ⟨e, _⟩ <;> (unfold handI at hh ⊢; omega))
              clear hh
              go_wp2_with fail
              obtain ⟨Wo, hWo⟩ : ∃ W, W = wr := ⟨_, rfl⟩
              subst hWo
              go_loopw [15, 43] (fun v x wx => ∃ j : Nat, j ≤ m ∧ x = .int .i64 j ∧ v = .int .i64 (-1) ∧ Hid (∀ z, z < j → freeP s z = false) ∧ Below Wo.heap.size Wo wx) (fun _ x _ => m - (intOf x).toNat)
              case atStart => exact ⟨0, by omega, rfl, rfl, Lib.hid (fun z hz => absurd hz (by omega)), Below.refl _ _⟩
              case round =>
                obtain ⟨j, hj, rfl, rfl, HNF, hB⟩ := hrel
                have hsz := hB.size
                by_cases hjm : j < m
                · obtain ⟨Wp, hWp⟩ : ∃ W, W = wr := ⟨_, rfl⟩
                  subst hWp
                  have HBE := Lib.hid (busyK_end HRS.out.inv hjm)
                  have HST : Hid (busyK (dur D) s j 0 = false) := Lib.hid rfl
                  go_wp2_with fail
                  go_loopw [17, 48] (fun v x wx => ∃ q : Nat, q ≤ k ∧ x = .int .i64 q ∧ v = .bool (busyK (dur D) s j q) ∧ Below Wp.heap.size Wp wx) (fun _ x _ => k - (intOf x).toNat)
                  case atStart => exact ⟨0, by omega, rfl, by rw [HST.out], Below.refl _ _⟩
                  case round =>
                    obtain ⟨q, hq, rfl, rfl, hB2⟩ := hrel
                    have hsz2 := hB2.size
                    by_cases hqk : q < k
                    · have HBT := hB.trans (hB2.mono hsz)
                      have HW2 := Lib.hid (HW.out.step HBT)
                      obtain ⟨c0, c1⟩ := turns_at HW2.out.turns hqk
                      have lgu := HW2.out.turns.lt
                      have h2q : q * 2 = 2 * q := by omega
                      have HGO := Lib.hid (busyK_go (dur D) s j q)
                      obtain ⟨W, hW⟩ : ∃ W, W = wr.alloc (.cells #[.int .i64 (atZ s q), .int .i64 (hdZ s q)] 169) := ⟨_, rfl⟩
                      have hBW : Below wr.heap.size wr W := by rw [hW]; exact (Below.refl _ _).alloc (Nat.le_refl _) _
                      have g0 : W.cell? ⟨wr.heap.size, 0, none⟩ = some (.int .i64 (atZ s q)) := by rw [hW]; simp
                      have g1 : W.cell? ⟨wr.heap.size, 1, none⟩ = some (.int .i64 (hdZ s q)) := by rw [hW]; simp
                      have g2 : wr.heap.size < W.heap.size := by rw [hW]; simp
                      have HBD := Lib.hid ((HW2.out.step hBW).below)
                      obtain ⟨bd, od, rfl, hbd, hatd⟩ := HD.out (by simp [ints]; have := HM.out; omega)
                      have d1 := (HBD.out.cell (p := ⟨bd, od + q, none⟩) hbd).trans (hatd q (.int .i64 (dur D q)) (by simp [ints, HDX.out q hqk]))
                      have lbd : bd < W.heap.size := by have := HBD.out.size; omega
                      have hi1 : (0 : Int) ≤ (q : Int) := by omega
                      have hi2 : (q : Int) < (k : Int) := by omega
                      have HWE := Lib.hid hW
                      have HB3 := Lib.hid (hB2.trans (hBW.mono hsz2))
                      clear hatd hBW hW
                      cases hbz : busyK (dur D) s j q with
                      | true =>
                        have HB4 : Hid (busyK (dur D) s j (q + 1) = true) := Lib.hid (by rw [HGO.out, hbz]; rfl)
                        clear hbz
                        go_wp2_with fail
                        rw [← HWE.out]
                        go_quiet (fail)
                        go_wp2_with fail
                        go_roundw
                        case rel => exact ⟨q + 1, by omega, rfl, by rw [HB4.out], by refine below_drewN ?_ _; exact HB3.out⟩
                        case measure => simp [intOf]; omega
                      | false =>
                        cases hhd : (hdZ s q == (j : Int)) with
                        | false =>
                          have HB4 : Hid (busyK (dur D) s j (q + 1) = false) := Lib.hid (by rw [HGO.out, hbz]; simp [busyB, hhd])
                          clear hbz
                          go_wp2_with fail
                          rw [← HWE.out]
                          go_quiet (fail)
                          go_wp2_with fail
                          go_roundw
                          case rel => exact ⟨q + 1, by omega, rfl, by rw [HB4.out], by refine below_drewN ?_ _; exact HB3.out⟩
                          case measure => simp [intOf]; omega
                        | true =>
                          have hbq : s.beg q = true := by
                            cases hb : s.beg q with
                            | true => rfl
                            | false =>
                              exfalso
                              have := eq_of_beq hhd
                              rw [hdZ_off hb] at this
                              omega
                          obtain ⟨s1, s2⟩ := ended_sum HRS.out.inv h60 HDP.out hqk hbq
                          have hw1 : IntKind.i64.wrap (atZ s q + dur D q) = atZ s q + dur D q := IntWalk.i64_in _ (by rw [atZ_on hbq]; omega)
                          have HB4 : Hid (busyK (dur D) s j (q + 1) = decide (atZ s q + dur D q > t)) := Lib.hid (by rw [HGO.out, hbz]; simp [busyB, hhd, HRS.out.now])
                          clear hbz hbq s1 s2
                          go_wp2_with fail
                          rw [← HWE.out]
                          go_quiet (fail)
                          go_wp2_with fail
                          go_roundw
                          case rel => exact ⟨q + 1, by omega, rfl, by rw [HB4.out], by refine below_drewN ?_ _; exact HB3.out⟩
                          case measure => simp [intOf]; omega
                    · have hqe : q = k := by omega
                      subst hqe
                      have HBT := hB.trans (hB2.mono hsz)
                      cases hfp : freeP s j with
                      | true =>
                        have HBE2 := Lib.hid (HBE.out.trans (by rw [hfp]))
                        have HHF : Hid (handI m s = (j : Int)) := Lib.hid (leastI_some hjm hfp HNF.out)
                        rw [HBE2.out]
                        clear hfp
                        exfalso
                        have x1 := HHF.out
                        have x2 := HHV.out
                        omega
                      | false =>
                        have HBE2 := Lib.hid (HBE.out.trans (by rw [hfp]))
                        have HNF2 : Hid (∀ z, z < j + 1 → freeP s z = false) := Lib.hid fun z hz => by
                          by_cases e : z = j
                          · rw [e]; exact hfp
                          · exact HNF.out z (by omega)
                        rw [HBE2.out]
                        clear hfp
                        go_wp2_with fail
                        go_roundw
                        case rel => exact ⟨j + 1, by omega, rfl, rfl, HNF2, HBT⟩
                        case measure => simp [intOf]; omega
                · have HEND : Hid (handI m s = -1) := Lib.hid (leastI_none (by have h := HNF.out; rwa [show j = m by omega] at h))
                  have HW3 := Lib.hid (HW.out.step hB)
                  go_wp2_with fail
                  obtain ⟨Wj, hWj⟩ : ∃ W, W = wr := ⟨_, rfl⟩
                  subst hWj
                  go_loopw [14, 77] (fun v x wx => ∃ i : Nat, i ≤ k ∧ x = .int .i64 i ∧ v = .bool false ∧ Below Wj.heap.size Wj wx) (fun _ x _ => k - (intOf x).toNat)
                  case atStart => exact ⟨0, by omega, rfl, rfl, Below.refl _ _⟩
                  case round =>
                    obtain ⟨i, hi, rfl, rfl, hB3⟩ := hrel
                    have hsz3 := hB3.size
                    by_cases hik : i < k
                    · have HW4 := Lib.hid (HW3.out.step hB3)
                      obtain ⟨c0, c1⟩ := turns_at HW4.out.turns hik
                      have lgu := HW4.out.turns.lt
                      have h2q : i * 2 = 2 * i := by omega
                      have hi1 : (0 : Int) ≤ (i : Int) := by omega
                      have hi2 : (i : Int) < (k : Int) := by omega
                      cases hat : decide (atZ s i ≥ 0) with
                      | true =>
                        go_wp2_with fail
                        go_roundw
                        case rel => exact ⟨i + 1, by omega, rfl, rfl, hB3⟩
                        case measure => simp [intOf]; omega
                      | false =>
                        go_wp2_with fail
                        go_roundw
                        case rel => exact ⟨i + 1, by omega, rfl, rfl, hB3⟩
                        case measure => simp [intOf]; omega
                    · have HSTOP := Lib.hid (HRS.out.stop rfl (.inl (by rw [HHV.out]; omega)))
                      go_wp2_with fail
                      go_roundg (gk - 1)
                      case measure => have := HSTOP.out.1; omega
                      case rel => exact ⟨s, false, rfl, Lib.hid (HW3.out.step hB3), Lib.hid HSTOP.out.2⟩
          | false =>
            obtain ⟨Wo, hWo⟩ : ∃ W, W = wr := ⟨_, rfl⟩
            subst hWo
            go_wp2_with fail
            go_loopw [13, 24, 25, 136] (fun ve vn vl x wx => ∃ q : Nat, q ≤ k ∧ x = .int .i64 q ∧ ve = .int .i64 (endK (dur D) s e q) ∧ vn = .int .i64 (nextK t (endG (dur D) s) q) ∧ vl = .bool (leftK s q) ∧ Below Wo.heap.size Wo wx) (fun _ _ _ x _ => k - (intOf x).toNat)
            case atStart => exact ⟨0, by omega, rfl, rfl, rfl, rfl, Below.refl _ _⟩
            case round =>
              obtain ⟨q, hq, rfl, rfl, rfl, rfl, hB2⟩ := hrel
              have hsz2 := hB2.size
              by_cases hqk : q < k
              · have HW2 := Lib.hid (HW.out.step hB2)
                obtain ⟨c0, c1⟩ := turns_at HW2.out.turns hqk
                have lgu := HW2.out.turns.lt
                have h2q : q * 2 = 2 * q := by omega
                have HGL := Lib.hid (leftK_go s q)
                have HEX := Lib.hid (show endK (dur D) s e (q + 1) = if s.beg q then max (endK (dur D) s e q) (s.at_ q + dur D q) else endK (dur D) s e q from rfl)
                have HNX := Lib.hid (show nextK t (endG (dur D) s) (q + 1) = if t < endG (dur D) s q ∧ (nextK t (endG (dur D) s) q < 0 ∨ endG (dur D) s q < nextK t (endG (dur D) s) q) then endG (dur D) s q else nextK t (endG (dur D) s) q from rfl)
                obtain ⟨W, hW⟩ : ∃ W, W = wr.alloc (.cells #[.int .i64 (atZ s q), .int .i64 (hdZ s q)] 169) := ⟨_, rfl⟩
                have hBW : Below wr.heap.size wr W := by rw [hW]; exact (Below.refl _ _).alloc (Nat.le_refl _) _
                have g0 : W.cell? ⟨wr.heap.size, 0, none⟩ = some (.int .i64 (atZ s q)) := by rw [hW]; simp
                have g1 : W.cell? ⟨wr.heap.size, 1, none⟩ = some (.int .i64 (hdZ s q)) := by rw [hW]; simp
                have g2 : wr.heap.size < W.heap.size := by rw [hW]; simp
                have HBD := Lib.hid ((HW2.out.step hBW).below)
                obtain ⟨bd, od, rfl, hbd, hatd⟩ := HD.out (by simp [ints]; have := HM.out; omega)
                have d1 := (HBD.out.cell (p := ⟨bd, od + q, none⟩) hbd).trans (hatd q (.int .i64 (dur D q)) (by simp [ints, HDX.out q hqk]))
                have lbd : bd < W.heap.size := by have := HBD.out.size; omega
                have hi1 : (0 : Int) ≤ (q : Int) := by omega
                have hi2 : (q : Int) < (k : Int) := by omega
                have HWE := Lib.hid hW
                have HB3 := Lib.hid (hB2.trans (hBW.mono hsz2))
                have HLT := Lib.hid (atZ_lt HRS.out.inv hqk)
                clear hatd hBW hW
                cases hbg : s.beg q with
                | false =>
                  have hlt : decide (atZ s q < 0) = true := by rw [HLT.out, hbg]; rfl
                  have HLK : Hid (leftK s (q + 1) = true) := Lib.hid (by rw [HGL.out, hbg]; simp)
                  have HEK : Hid (endK (dur D) s e (q + 1) = endK (dur D) s e q) := Lib.hid (by rw [HEX.out, hbg]; simp)
                  have HNK : Hid (nextK t (endG (dur D) s) (q + 1) = nextK t (endG (dur D) s) q) := Lib.hid (by rw [HNX.out, if_neg]; have := HRS.out.now; simp [endG, hbg]; intro h; omega)
                  clear hbg
                  go_wp2_with fail
                  go_roundw
                  case rel => exact ⟨q + 1, by omega, rfl, by rw [HEK.out], by rw [HNK.out], by rw [HLK.out], by rw [← HWE.out]; exact HB3.out⟩
                  case measure => simp [intOf]; omega
                | true =>
                  have hlt : decide (atZ s q < 0) = false := by rw [HLT.out, hbg]; rfl
                  have HLK : Hid (leftK s (q + 1) = leftK s q) := Lib.hid (by rw [HGL.out, hbg]; simp)
                  obtain ⟨s1, s2⟩ := ended_sum HRS.out.inv h60 HDP.out hqk hbg
                  have hw1 : IntKind.i64.wrap (atZ s q + dur D q) = atZ s q + dur D q := IntWalk.i64_in _ (by rw [atZ_on hbg]; omega)
                  have HEG : Hid (endG (dur D) s q = atZ s q + dur D q) := Lib.hid (by rw [atZ_on hbg]; simp [endG, hbg])
                  have HEX2 : Hid (endK (dur D) s e (q + 1) = max (endK (dur D) s e q) (atZ s q + dur D q)) := Lib.hid (by rw [HEX.out, hbg, atZ_on hbg]; simp)
                  rw [HEG.out] at HNX
                  generalize atZ s q = az at *
                  generalize dur D q = dq at *
                  generalize endK (dur D) s e q = ek at *
                  generalize nextK t (endG (dur D) s) q = nk at *
                  clear hbg
                  by_cases hmx : ek < az + dq
                  · have HEK : Hid (endK (dur D) s e (q + 1) = az + dq) := Lib.hid (by rw [HEX2.out]; omega)
                    by_cases k1 : t < az + dq
                    · have k1b : decide (az + dq > t) = true := by simp [k1]
                      by_cases k2 : nk < 0
                      · have k2b : decide (nk < 0) = true := by simp [k2]
                        have HNK := Lib.hid (HNX.out.trans (if_pos ⟨k1, .inl k2⟩))
                        clear k1 k2
                        go_wp2_with fail
                        rw [← HWE.out]
                        go_quiet (fail)
                        go_wp2_with fail
                        go_roundw
                        case rel => exact ⟨q + 1, by omega, rfl, by rw [HEK.out], by rw [HNK.out], by rw [HLK.out], by refine below_drewN ?_ _; exact HB3.out⟩
                        case measure => simp [intOf]; omega
                      · have k2b : decide (nk < 0) = false := by simp [k2]
                        by_cases k3 : az + dq < nk
                        · have k3b : decide (az + dq < nk) = true := by simp [k3]
                          have HNK := Lib.hid (HNX.out.trans (if_pos ⟨k1, .inr k3⟩))
                          clear k1 k2 k3
                          go_wp2_with fail
                          rw [← HWE.out]
                          go_quiet (fail)
                          go_wp2_with fail
                          go_roundw
                          case rel => exact ⟨q + 1, by omega, rfl, by rw [HEK.out], by rw [HNK.out], by rw [HLK.out], by refine below_drewN ?_ _; exact HB3.out⟩
                          case measure => simp [intOf]; omega
                        · have k3b : decide (az + dq < nk) = false := by simp [k3]
                          have HNK := Lib.hid (HNX.out.trans (if_neg (by omega)))
                          clear k1 k2 k3
                          go_wp2_with fail
                          rw [← HWE.out]
                          go_quiet (fail)
                          go_wp2_with fail
                          go_roundw
                          case rel => exact ⟨q + 1, by omega, rfl, by rw [HEK.out], by rw [HNK.out], by rw [HLK.out], by refine below_drewN ?_ _; exact HB3.out⟩
                          case measure => simp [intOf]; omega
                    · have k1b : decide (az + dq > t) = false := by simp [k1]
                      have HNK := Lib.hid (HNX.out.trans (if_neg (by omega)))
                      clear k1
                      go_wp2_with fail
                      rw [← HWE.out]
                      go_quiet (fail)
                      go_wp2_with fail
                      go_roundw
                      case rel => exact ⟨q + 1, by omega, rfl, by rw [HEK.out], by rw [HNK.out], by rw [HLK.out], by refine below_drewN ?_ _; exact HB3.out⟩
                      case measure => simp [intOf]; omega
                  · have HEK : Hid (endK (dur D) s e (q + 1) = ek) := Lib.hid (by rw [HEX2.out]; omega)
                    by_cases k1 : t < az + dq
                    · have k1b : decide (az + dq > t) = true := by simp [k1]
                      by_cases k2 : nk < 0
                      · have k2b : decide (nk < 0) = true := by simp [k2]
                        have HNK := Lib.hid (HNX.out.trans (if_pos ⟨k1, .inl k2⟩))
                        clear k1 k2
                        go_wp2_with fail
                        rw [← HWE.out]
                        go_quiet (fail)
                        go_wp2_with fail
                        go_roundw
                        case rel => exact ⟨q + 1, by omega, rfl, by rw [HEK.out], by rw [HNK.out], by rw [HLK.out], by refine below_drewN ?_ _; exact HB3.out⟩
                        case measure => simp [intOf]; omega
                      · have k2b : decide (nk < 0) = false := by simp [k2]
                        by_cases k3 : az + dq < nk
                        · have k3b : decide (az + dq < nk) = true := by simp [k3]
                          have HNK := Lib.hid (HNX.out.trans (if_pos ⟨k1, .inr k3⟩))
                          clear k1 k2 k3
                          go_wp2_with fail
                          rw [← HWE.out]
                          go_quiet (fail)
                          go_wp2_with fail
                          go_roundw
                          case rel => exact ⟨q + 1, by omega, rfl, by rw [HEK.out], by rw [HNK.out], by rw [HLK.out], by refine below_drewN ?_ _; exact HB3.out⟩
                          case measure => simp [intOf]; omega
                        · have k3b : decide (az + dq < nk) = false := by simp [k3]
                          have HNK := Lib.hid (HNX.out.trans (if_neg (by omega)))
                          clear k1 k2 k3
                          go_wp2_with fail
                          rw [← HWE.out]
                          go_quiet (fail)
                          go_wp2_with fail
                          go_roundw
                          case rel => exact ⟨q + 1, by omega, rfl, by rw [HEK.out], by rw [HNK.out], by rw [HLK.out], by refine below_drewN ?_ _; exact HB3.out⟩
                          case measure => simp [intOf]; omega
                    · have k1b : decide (az + dq > t) = false := by simp [k1]
                      have HNK := Lib.hid (HNX.out.trans (if_neg (by omega)))
                      clear k1
                      go_wp2_with fail
                      rw [← HWE.out]
                      go_quiet (fail)
                      go_wp2_with fail
                      go_roundw
                      case rel => exact ⟨q + 1, by omega, rfl, by rw [HEK.out], by rw [HNK.out], by rw [HLK.out], by refine below_drewN ?_ _; exact HB3.out⟩
                      case measure => simp [intOf]; omega
              · have hqe : q = k := by omega
                subst hqe
                have HLE := Lib.hid (leftK_end q s)
                have HEE := Lib.hid (endK_end HRS.out.inv HRS.out.e0 HRS.out.e1)
                have HNE := Lib.hid (show nextK t (endG (dur D) s) q = nextI m s from by rw [← HRS.out.now]; exact nextT_end HRS.out.inv)
                rw [HLE.out, HEE.out, HNE.out]
                have HW2 := Lib.hid (HW.out.step hB2)
                by_cases hl : leftN q s = 0
                · have hlb : decide (leftN q s ≠ 0) = false := by simp [hl]
                  rw [hlb]
                  have HRUN := Lib.hid (HRS.out.run s (.done hl))
                  clear hl hlb
                  go_wp2_with fail
                  exact bodyPost_ret (v := .tuple #[.slice (some ⟨gu, 0, none⟩) q q, .int .i64 s.fin]) (by simp [results, Try.results19, go_sem]) rfl ⟨gu, s, rfl, HRUN.out, HW2.out.turns, HW2.out.below⟩
                · have hlb : decide (leftN q s ≠ 0) = true := by simp [hl]
                  rw [hlb]
                  have HOV := Lib.hid (HRS.out.over HT.out HO.out (by omega) hl)
                  have hnn : decide (nextI m s < 0) = false := by have := HOV.out.1; simp; omega
                  clear hl hlb
                  go_wp2_with fail
                  go_roundg (gq - 1)
                  case measure => have := HOV.out.2.1; omega
                  case rel => exact ⟨s.wait (nextI m s), nextI m s, s.fin, rfl, rfl, Lib.hid (HW2.out.same rfl rfl), Lib.hid HOV.out.2.2⟩
end Go.Proofs.Ytfjoakhcgpckgaa
