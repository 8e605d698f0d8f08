/- Contract: change: what is used of a host is turned by a closure that is handed in; the same hosts otherwise, in new memory. -/
import Derived.Test.YtnfmopmcckgfdaaHostOwn
import Derived.Test.YtnfmopmcckgfdaaHostAct
import Derived.Laws.EntriesVeiled
namespace Go.Proofs.Ytnfmopmcckgfdaa
open Go.ChangeShapes Go.WideShapes Go.ChangeAt Go.RowKit
set_option linter.unusedVariables false
open Tp
def Hst.useSet (h : Hst) (u : Amt) : Hst := { h with used := u }
theorem OwnG.setUsed {B g k : Nat} {w : World} {L : List Hst} {h : Hst} {u : Amt} (hO : OwnG B g w L) (hx : L[k]? = some h) : OwnG B g (((w.setCell ⟨g, k * 8 + 5, none⟩ (.int .i64 u.cpu)).setCell ⟨g, k * 8 + 5 + 1, none⟩ (.int .i64 u.mem)).setCell ⟨g, k * 8 + 5 + 2, none⟩ (.int .i64 u.gpu)) (L.set k (h.useSet u)) := by
  have hne : ∀ {p q : Nat}, p ≠ q → (⟨g, p, none⟩ : Addr) ≠ ⟨g, q, none⟩ := fun hpq e => hpq (congrArg Addr.off e)
  refine ⟨hO.lo, by simpa using hO.lt, fun i => ?_, fun i x hxi => ?_⟩
  · rw [World.frozen?_setCell, World.frozen?_setCell, World.frozen?_setCell]; exact hO.frz i
  · by_cases e : i = k
    · subst e
      have hk : i < L.length := (List.getElem?_eq_some_iff.1 hx).1
      obtain rfl : h.useSet u = x := by
        rw [List.getElem?_set_self hk] at hxi
        exact Option.some.inj hxi
      obtain ⟨la, lc, h1, h2, h3, h4, h5⟩ := hO.row i h hx
      refine ⟨la, lc, fun r v hr => ?_, h2, h3, ((h4.set _ _).set _ _).set _ _, h5⟩
      have hr8 : r < 8 := by have := (List.getElem?_eq_some_iff.1 hr).1; rwa [hcs_len] at this
      have s5 := h1 5 _ rfl
      have s6 := h1 6 _ rfl
      have s7 := h1 7 _ rfl
      by_cases hr5 : r < 5
      · rw [World.cell?_setCell_other _ _ _ _ (hne (by omega)), World.cell?_setCell_other _ _ _ _ (hne (by omega)), World.cell?_setCell_other _ _ _ _ (hne (by omega))]
        refine h1 r v ?_
        rw [← hr]
        match r, hr5 with
        | 0, _ => rfl
        | 1, _ => rfl
        | 2, _ => rfl
        | 3, _ => rfl
        | 4, _ => rfl
      · rcases (show r = 5 ∨ r = 6 ∨ r = 7 by omega) with rfl | rfl | rfl
        · rw [World.cell?_setCell_other _ _ _ _ (hne (by omega)), World.cell?_setCell_other _ _ _ _ (hne (by omega)), World.cell?_setCell_same _ _ _ s5]
          exact hr
        · rw [World.cell?_setCell_other _ _ _ _ (hne (by omega)), World.cell?_setCell_same _ _ _ (show _ = some _ from (World.cell?_setCell_other _ _ _ _ (hne (by omega))).trans s6)]
          exact hr
        · rw [World.cell?_setCell_same _ _ _ (show _ = some _ from (World.cell?_setCell_other _ _ _ _ (hne (by omega))).trans ((World.cell?_setCell_other _ _ _ _ (hne (by omega))).trans s7))]
          exact hr
    · rw [List.getElem?_set_ne (fun h => e h.symm)] at hxi
      obtain ⟨la, lc, h1, h2, h3, h4, h5⟩ := hO.row i x hxi
      refine ⟨la, lc, fun r v hr => ?_, h2, h3, ((h4.set _ _).set _ _).set _ _, h5⟩
      have hr8 : r < 8 := by have := (List.getElem?_eq_some_iff.1 hr).1; rwa [hcs_len] at this
      rw [World.cell?_setCell_other _ _ _ _ (hne (by omega)), World.cell?_setCell_other _ _ _ _ (hne (by omega)), World.cell?_setCell_other _ _ _ _ (hne (by omega))]
      exact h1 r v hr
/-- what change tells -/
def chE (F : Hst → Amt × Int) (L : List Hst) (i : Int) : Int := if hostsE L ≠ 0 then hostsE L else if i < 0 ∨ (L.length : Int) ≤ i then 5 else match L[i.toNat]? with | some h => (F h).2 | none => 5
def chL (F : Hst → Amt × Int) (L : List Hst) (i : Int) : List Hst := if chE F L i ≠ 0 then [] else match L[i.toNat]? with | some h => L.set i.toNat (h.useSet (F h).1) | none => []
theorem chL_bad {F : Hst → Amt × Int} {L : List Hst} {i : Int} (h : chE F L i ≠ 0) : chL F L i = [] := by unfold chL; rw [if_pos h]
theorem nilOwn (B : Nat) (w : World) : OwnR B w (.slice none 0 0) [] := ⟨none, 0, rfl, Nat.le_refl _, by omega, fun h => absurd h (by simp)⟩
theorem labels_few {L : List Hst} (h : hostsE L = 0) : L.length ≤ 30 ∧ ∀ (i : Nat) (x : Hst), L[i]? = some x → x.labels.length ≤ 8 := by
  unfold hostsE at h
  split at h
  · cases h
  · rename_i h30
    refine ⟨by omega, ?_⟩
    have key : ∀ (L : List Hst) (S : List Bs), hostsF S L = 0 → ∀ (i : Nat) (x : Hst), L[i]? = some x → x.labels.length ≤ 8 := by
      intro L
      induction L with
      | nil => intro S _ i x hx; simp at hx
      | cons y L ih =>
        intro S hS i x hx
        rw [hostsF] at hS
        split at hS
        · rename_i h2; exact absurd hS h2
        · rename_i h2
          have h2 : hostF S y = 0 := Decidable.byContradiction h2
          cases i with
          | zero =>
            simp at hx; subst hx
            unfold hostF at h2
            split at h2
            · cases h2
            split at h2
            · cases h2
            split at h2
            · cases h2
            · omega
          | succ i => exact ih _ hS i x (by simpa using hx)
    exact key L [] h
set_option maxRecDepth 20000 in
set_option maxHeartbeats 16000000 in
theorem change_any (K : FuncId) (hE : Enters K) (ct : Array Value) (F : Hst → Amt × Int) (J : World → Prop) (hJ : ∀ w w', J w → Below w.heap.size w w' → J w')
    (hK : ∀ (h : Hst) (v : Value) (w : World), J w → HostV w h v → Calls Try.prog K (#[v] ++ ct) w fun e w' => e = .returned (.tuple #[(F h).1.v, .int .i64 (F h).2]) ∧ Below w.heap.size w w')
    (L : List Hst) (a : Option Addr) (n cap : Nat) (i : Int) (w : World) (hn : n = L.length) (hmax : n ≤ 9223372036854775807) (hi : -9223372036854775808 ≤ i ∧ i ≤ 9223372036854775807) (hL : Hosts w a L) (hj : J w) :
    Calls Try.prog 23 #[.slice a n cap, .int .i64 i, .func (.func K) #[] ct] w fun e w' => ∃ v, e = .returned (.tuple #[v, .int .i64 (chE F L i)]) ∧ OwnR w.heap.size w' v (chL F L i) ∧ Below w.heap.size w w' := by
  have HC := Lib.hid (hCheck_any L a n cap w hn hmax hL)
  have HN := Lib.hid hn
  have HL := Lib.hid hL
  have HJ := Lib.hid hJ
  have HK := Lib.hid hK
  have HJW := Lib.hid hj
  obtain ⟨E, hEE⟩ : ∃ E, hostsE L = E := ⟨_, rfl⟩
  have HE := Lib.hid hEE
  rw [hEE] at HC
  obtain ⟨V, hV⟩ : ∃ V, chE F L i = V := ⟨_, rfl⟩
  have HV := Lib.hid hV
  rw [hV]
  clear hn hL hJ hK hj hEE hV
  unfold Enters at hE
  by_cases he : E = 0
  · have HFEW := Lib.hid (labels_few (HE.out.trans he))
    have HVV : Hid (V = if i < 0 ∨ (L.length : Int) ≤ i then 5 else match L[i.toNat]? with | some h => (F h).2 | none => 5) := Lib.hid (by rw [← HV.out]; unfold chE; rw [if_neg (by rw [HE.out]; simp [he])])
    subst he
    by_cases hi0 : i < 0
    · have HR : Hid (V = 5) := Lib.hid (by rw [HVV.out, if_pos (.inl hi0)])
      have HB : Hid (chL F L i = []) := Lib.hid (chL_bad (by rw [HV.out, HR.out]; decide))
      go_enter Try.func23, Try.ntmps23
      go_wp2_with fail
      refine Calls.mono HC.out ?_
      rintro e' W1 ⟨rfl, hl⟩
      go_wp2_with fail
      go_ret2
      exact ⟨.slice none 0 0, by rw [HR.out]; rfl, by rw [HB.out]; exact nilOwn _ _, hl⟩
    by_cases hin : (n : Int) ≤ i
    · have HR : Hid (V = 5) := Lib.hid (by rw [HVV.out, if_pos (.inr (by rw [← HN.out]; exact hin))])
      have HB : Hid (chL F L i = []) := Lib.hid (chL_bad (by rw [HV.out, HR.out]; decide))
      go_enter Try.func23, Try.ntmps23
      go_wp2_with fail
      refine Calls.mono HC.out ?_
      rintro e' W1 ⟨rfl, hl⟩
      go_wp2_with fail
      go_ret2
      exact ⟨.slice none 0 0, by rw [HR.out]; rfl, by rw [HB.out]; exact nilOwn _ _, hl⟩
    · obtain ⟨k, rfl⟩ : ∃ k : Nat, i = (k : Int) := ⟨i.toNat, by omega⟩
      have hkn : k < n := by omega
      obtain ⟨h, hx⟩ : ∃ h, L[k]? = some h := ⟨_, List.getElem?_eq_getElem (by rw [← HN.out]; exact hkn)⟩
      obtain ⟨A, E2, hA⟩ : ∃ A E2, F h = (A, E2) := ⟨_, _, rfl⟩
      have HX := Lib.hid hx
      have HA := Lib.hid hA
      have HVE : Hid (V = E2) := Lib.hid (by rw [HVV.out, if_neg (by rw [← HN.out]; omega), Int.toNat_natCast, hx]; show (F h).2 = E2; rw [hA])
      obtain ⟨b, off, rfl, hb, hat⟩ := HL.out (by rw [← HN.out]; omega)
      have HAT := Lib.hid (hat k h hx)
      have hk1 : (0 : Int) ≤ (k : Int) := by omega
      have hk2 : (k : Int) < (n : Int) := by omega
      clear hat hx hA
      go_enter Try.func23, Try.ntmps23
      go_wp2_with fail
      refine Calls.mono HC.out ?_
      rintro e' W1 ⟨rfl, hl⟩
      have HB1 := Lib.hid hl
      obtain ⟨la, lc, hcell, hlc, hl63, hlab, hsz⟩ := HAT.out.below hl hb
      obtain ⟨nm, hnm⟩ : ∃ s, bts h.name = s := ⟨_, rfl⟩
      obtain ⟨m, hm⟩ : ∃ m, h.labels.length = m := ⟨_, rfl⟩
      have HHV : Hid (HostV W1 h (.agg #[.string nm, .slice la m lc, .int .i64 h.has.cpu, .int .i64 h.has.mem, .int .i64 h.has.gpu, .int .i64 h.used.cpu, .int .i64 h.used.mem, .int .i64 h.used.gpu])) := Lib.hid ⟨la, m, lc, by rw [hnm], hm.symm, by omega, by omega, hlab⟩
      unfold hcs at hcell
      rw [hnm, hm] at hcell
      have c0 := hcell 0 _ rfl
      have c1 := hcell 1 _ rfl
      have c2 := hcell 2 _ rfl
      have c3 := hcell 3 _ rfl
      have c4 := hcell 4 _ rfl
      have c5 := hcell 5 _ rfl
      have c6 := hcell 6 _ rfl
      have c7 := hcell 7 _ rfl
      simp only [Nat.add_zero] at c0
      have hbr : b < W1.heap.size := Nat.lt_of_lt_of_le hb hl.size
      have HCK := Lib.hid (HK.out h _ W1 (HJ.out _ _ HJW.out hl) HHV.out)
      rw [HA.out] at HCK
      have HCK2 : Hid (Calls Try.prog K (#[.agg #[.string nm, .slice la m lc, .int .i64 h.has.cpu, .int .i64 h.has.mem, .int .i64 h.has.gpu, .int .i64 h.used.cpu, .int .i64 h.used.mem, .int .i64 h.used.gpu]] ++ ct) W1 fun e w' => e = .returned (.tuple #[.agg #[.int .i64 A.cpu, .int .i64 A.mem, .int .i64 A.gpu], .int .i64 E2]) ∧ Below W1.heap.size W1 w') := Lib.hid HCK.out
      clear hcell hlc hl63 hlab hsz hnm hm hl
      go_wp2_with fail
      refine Calls.mono HCK2.out ?_
      rintro e' W2 ⟨rfl, hl⟩
      have HB2 := Lib.hid (HB1.out.trans (hl.mono HB1.out.size))
      obtain ⟨W3, hW3⟩ : ∃ W, W = W2.alloc (.cells #[.int .i64 A.cpu, .int .i64 A.mem, .int .i64 A.gpu] 27) := ⟨_, rfl⟩
      obtain ⟨cn, hcn⟩ : ∃ c, c = W2.heap.size := ⟨_, rfl⟩
      have h3 : Below W2.heap.size W2 W3 := by rw [hW3]; exact (Below.refl _ _).alloc (Nat.le_refl _) _
      have HB3 := Lib.hid (HB2.out.trans (h3.mono HB2.out.size))
      have n0 : W3.cell? ⟨cn, 0, none⟩ = some (.int .i64 A.cpu) := by rw [hW3]; exact (top_cell _ _ _ _ _ hcn).trans rfl
      have n1 : W3.cell? ⟨cn, 1, none⟩ = some (.int .i64 A.mem) := by rw [hW3]; exact (top_cell _ _ _ _ _ hcn).trans rfl
      have n2 : W3.cell? ⟨cn, 2, none⟩ = some (.int .i64 A.gpu) := by rw [hW3]; exact (top_cell _ _ _ _ _ hcn).trans rfl
      have hcn3 : cn < W3.heap.size := by rw [hW3, hcn]; simp
      clear hl h3 c0 c1 c2 c3 c4 c5 c6 c7 hbr
      go_upto_region 7 with fail
      rw [← hW3, ← hcn]
      clear hW3 hcn
      by_cases he2 : E2 = 0
      · have HOW := Lib.hid (own_any L (some ⟨b, off, none⟩) n cap W3 HN.out (by have := HFEW.out.1; have := HN.out; omega) (fun i x hx => by have := HFEW.out.2 i x hx; omega) (HL.out.below HB3.out))
        subst he2
        have HCL : Hid (chL F L (k : Int) = L.set k (h.useSet A)) := Lib.hid (by unfold chL; rw [if_neg (by rw [HV.out, HVE.out]; simp), Int.toNat_natCast, HX.out]; show L.set k (h.useSet (F h).1) = _; rw [HA.out])
        go_wp2_with fail
        refine Calls.mono HOW.out ?_
        rintro e' W4 ⟨v, rfl, ⟨a4, cp4, hv, hcp, hcp2, hO9⟩, hl⟩
        obtain ⟨g, rfl, hO⟩ := hO9 (by rw [← HN.out]; omega)
        clear hO9
        rw [← HN.out] at hv
        subst hv
        have HB4 := Lib.hid (HB3.out.trans (hl.mono HB3.out.size))
        have HO := Lib.hid hO
        obtain ⟨la', lc', hcell', _, _, _, _⟩ := hO.row k h HX.out
        have x5 := hcell' 5 _ rfl
        have x6 := hcell' 6 _ rfl
        have x7 := hcell' 7 _ rfl
        have z5 := hO.frz (k * 8 + 5)
        have z6 := hO.frz (k * 8 + 6)
        have z7 := hO.frz (k * 8 + 7)
        have m0 := (hl.cell (p := ⟨cn, 0, none⟩) hcn3).trans n0
        have m1 := (hl.cell (p := ⟨cn, 1, none⟩) hcn3).trans n1
        have m2 := (hl.cell (p := ⟨cn, 2, none⟩) hcn3).trans n2
        have hg4 := hO.lt
        have HLEN : Hid ((L.set k (h.useSet A)).length = n) := Lib.hid (by rw [List.length_set, HN.out])
        have hcp' : n ≤ cp4 := by have := HN.out; omega
        have HCP2 := Lib.hid hcp2
        clear hcell' hl hO hcp hcp2 n0 n1 n2
        go_wp2_with fail
        go_ret2
        refine ⟨_, by rw [HVE.out]; rfl, ?_, ?_⟩
        · rw [HCL.out]
          refine ⟨some ⟨g, 0, none⟩, cp4, by rw [HLEN.out]; rfl, by rw [HLEN.out]; exact hcp', HCP2.out, fun _ => ⟨g, rfl, ?_⟩⟩
          have := OwnG.setUsed (u := A) HO.out HX.out
          exact ⟨Nat.le_trans HB3.out.size this.lo, this.lt, this.frz, this.row⟩
        · exact ((HB4.out.setCell (p := ⟨g, k * 8 + 5, none⟩) (Nat.le_trans HB3.out.size HO.out.lo) _).setCell (p := ⟨g, k * 8 + 5 + 1, none⟩) (Nat.le_trans HB3.out.size HO.out.lo) _).setCell (p := ⟨g, k * 8 + 5 + 2, none⟩) (Nat.le_trans HB3.out.size HO.out.lo) _
      · have HB : Hid (chL F L (k : Int) = []) := Lib.hid (chL_bad (by rw [HV.out, HVE.out]; exact he2))
        have he3 : (E2 != 0) = true := by simpa using he2
        clear he2
        go_wp2_with fail
        go_ret2
        exact ⟨.slice none 0 0, by rw [HVE.out]; rfl, by rw [HB.out]; exact nilOwn _ _, HB3.out⟩
  · have HR : Hid (V = E) := Lib.hid (by rw [← HV.out]; unfold chE; rw [HE.out, if_pos he])
    have HB : Hid (chL F L i = []) := Lib.hid (chL_bad (by rw [HV.out, HR.out]; exact he))
    have he2 : (E != 0) = true := by simpa using he
    clear he
    go_enter Try.func23, Try.ntmps23
    go_wp2_with fail
    refine Calls.mono HC.out ?_
    rintro e' W1 ⟨rfl, hl⟩
    go_wp2_with fail
    go_ret2
    exact ⟨.slice none 0 0, by rw [HR.out]; rfl, by rw [HB.out]; exact nilOwn _ _, hl⟩
end Go.Proofs.Ytnfmopmcckgfdaa
