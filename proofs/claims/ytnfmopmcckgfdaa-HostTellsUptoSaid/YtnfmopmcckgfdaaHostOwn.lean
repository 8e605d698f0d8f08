/- Contract: own: the same hosts in new memory. -/
import Derived.Test.YtnfmopmcckgfdaaHostClone
namespace Go.Proofs.Ytnfmopmcckgfdaa
open Go.ChangeShapes Go.WideShapes Go.ChangeAt Go.RowKit
set_option linter.unusedVariables false
open Tp
/-- eight cells that read as a host; its labels lie in a block of p -/
def HC (p : Nat → Prop) (w : World) (h : Hst) (b off : Nat) : Prop := ∃ la lc, (∀ i v, (hcs h la lc)[i]? = some v → w.cell? ⟨b, off + i, none⟩ = some v) ∧ h.labels.length ≤ lc ∧ h.labels.length ≤ 9223372036854775807 ∧ LabsP p w la h.labels ∧ HSz h
theorem HC.toC {p : Nat → Prop} {w : World} {h : Hst} {b off : Nat} (hc : HC p w h b off) : HostCells w h b off := by
  obtain ⟨la, lc, h1, h2, h3, h4, h5⟩ := hc
  exact ⟨la, lc, h1, h2, h3, h4.toL, h5⟩
theorem HC.below {p : Nat → Prop} {w w' : World} {h : Hst} {b off : Nat} (hc : HC p w h b off) (hb : Below w.heap.size w w') (hlt : b < w.heap.size) : HC p w' h b off := by
  obtain ⟨la, lc, h1, h2, h3, h4, h5⟩ := hc
  exact ⟨la, lc, fun i v hi => (hb.cell (p := ⟨b, off + i, none⟩) hlt).trans (h1 i v hi), h2, h3, h4.stays (fun _ h _ => h) hb.size (fun b _ hlt => hb.block b hlt), h5⟩
theorem HRow.hc {p : Nat → Prop} {w : World} {b : Nat} : ∀ {L : List Hst} {xs : List Value} {off : Nat}, HRow p w L xs → (∀ j u, xs[j]? = some u → w.cell? ⟨b, off + j, none⟩ = some u) → ∀ i x, L[i]? = some x → HC p w x b (off + i * 8)
  | [], xs, off, h, hc, i, x, hx => by simp at hx
  | y :: L, xs, off, h, hc, i, x, hx => by
    rw [HRow] at h
    obtain ⟨la, lc, rest, rfl, h1, h3, h4, h5, h2⟩ := h
    cases i with
    | zero =>
      obtain rfl : y = x := by simpa using hx
      refine ⟨la, lc, fun j u hj => ?_, h1, h3, h4, h5⟩
      rw [Nat.zero_mul, Nat.add_zero]
      exact hc j u (by rw [List.getElem?_append_left (List.getElem?_eq_some_iff.1 hj).1]; exact hj)
    | succ i =>
      have := HRow.hc (off := off + 8) h2 (fun j u hj => by
        have := hc (8 + j) u (by rw [List.getElem?_append_right (by rw [hcs_len]; omega), hcs_len, Nat.add_sub_cancel_left]; exact hj)
        rwa [← Nat.add_assoc] at this) i x (by simpa using hx)
      rwa [show off + (i + 1) * 8 = off + 8 + i * 8 from by omega]
/-- a row of hosts of the call's own, in block g -/
structure OwnG (B g : Nat) (w : World) (L : List Hst) : Prop where
  lo : B ≤ g
  lt : g < w.heap.size
  frz : ∀ i, w.frozen? ⟨g, i, none⟩ = false
  row : ∀ i h, L[i]? = some h → HC (fun b => b ≠ g) w h g (i * 8)
theorem OwnG.below {B g : Nat} {w w' : World} {L : List Hst} (h : OwnG B g w L) (hb : Below w.heap.size w w') : OwnG B g w' L :=
  ⟨h.lo, Nat.lt_of_lt_of_le h.lt hb.size, fun i => (hb.frozen (p := ⟨g, i, none⟩) h.lt).trans (h.frz i), fun i x hx => (h.row i x hx).below hb h.lt⟩
theorem LabsP.set {w : World} {g : Nat} {la : Option Addr} {l : List Lab} (h : LabsP (fun b => b ≠ g) w la l) (q : Nat) (u : Value) : LabsP (fun b => b ≠ g) (w.setCell ⟨g, q, none⟩ u) la l :=
  h.stays (fun _ h _ => h) (by simp) (fun b hp _ => Below.heap_setCell _ _ _ _ hp)
/-- one host's labels are turned to a copy of them -/
theorem OwnG.setLab {B g j m c' : Nat} {w : World} {L : List Hst} {h : Hst} {a' : Option Addr} (hO : OwnG B g w L) (hx : L[j]? = some h) (hm : m = h.labels.length) (hc : m ≤ c') (hL : LabsP (fun b => b ≠ g) w a' h.labels) : OwnG B g (w.setCell ⟨g, j * 8 + 1, none⟩ (.slice a' m c')) L := by
  refine ⟨hO.lo, by simpa using hO.lt, fun i => ?_, fun i x hxi => ?_⟩
  · rw [World.frozen?_setCell]; exact hO.frz i
  · obtain ⟨la, lc, h1, h2, h3, h4, h5⟩ := hO.row i x hxi
    by_cases e : i = j
    · subst e
      obtain rfl : h = x := by rw [hx] at hxi; exact Option.some.inj hxi
      refine ⟨a', c', fun r u hr => ?_, by omega, h3, hL.set _ _, h5⟩
      have hr8 : r < 8 := by have := (List.getElem?_eq_some_iff.1 hr).1; rwa [hcs_len] at this
      by_cases e1 : r = 1
      · subst e1
        rw [World.cell?_setCell_same _ _ _ (h1 1 _ rfl)]
        rw [← hr, hm]; rfl
      · rw [World.cell?_setCell_other]
        · refine h1 r u ?_
          rw [← hr]
          match r, hr8, e1 with
          | 0, _, _ => rfl
          | 2, _, _ => rfl
          | 3, _, _ => rfl
          | 4, _, _ => rfl
          | 5, _, _ => rfl
          | 6, _, _ => rfl
          | 7, _, _ => rfl
          | 1, _, e1 => exact absurd rfl e1
        · intro e2
          have := congrArg Addr.off e2
          simp only at this
          omega
    · refine ⟨la, lc, fun r u hr => ?_, h2, h3, h4.set _ _, h5⟩
      have hr8 : r < 8 := by have := (List.getElem?_eq_some_iff.1 hr).1; rwa [hcs_len] at this
      rw [World.cell?_setCell_other]
      · exact h1 r u hr
      · intro e2
        have := congrArg Addr.off e2
        simp only at this
        omega
/-- a slice value that reads as hosts, in memory of the call's own -/
def OwnR (B : Nat) (w : World) (v : Value) (L : List Hst) : Prop := ∃ a cp, v = .slice a L.length cp ∧ L.length ≤ cp ∧ cp ≤ 9223372036854775807 ∧ (0 < L.length → ∃ g, a = some ⟨g, 0, none⟩ ∧ OwnG B g w L)
theorem OwnR.below {B : Nat} {w w' : World} {v : Value} {L : List Hst} (h : OwnR B w v L) (hb : Below w.heap.size w w') : OwnR B w' v L := by
  obtain ⟨a, cp, e, h1, h2, h3⟩ := h
  exact ⟨a, cp, e, h1, h2, fun hp => by obtain ⟨g, e2, hg⟩ := h3 hp; exact ⟨g, e2, hg.below hb⟩⟩
theorem OwnR.hosts {B : Nat} {w : World} {a : Option Addr} {n cp : Nat} {L : List Hst} (h : OwnR B w (.slice a n cp) L) : n = L.length ∧ n ≤ cp ∧ Hosts w a L := by
  obtain ⟨a2, cp2, e, h1, h2, h3⟩ := h
  cases e
  refine ⟨rfl, h1, fun hp => ?_⟩
  obtain ⟨g, rfl, hg⟩ := h3 hp
  exact ⟨g, 0, rfl, hg.lt, fun i x hx => by rw [Nat.zero_add]; exact (hg.row i x hx).toC⟩
theorem clone_own {B n : Nat} {w : World} {v : Value} {L : List Hst} {xs : List Value} (hn : n = L.length) (ho : w.ownsRow B 30 8 v n xs) (hr : HRow (fun b => b < B) w L xs) : OwnR B w v L := by
  obtain ⟨a, cp, rfl, h1, h2, hg⟩ := ownForm ho
  refine ⟨a, cp, by rw [hn], by omega, h2, fun hp => ?_⟩
  obtain ⟨g, rfl⟩ := hg (by omega)
  have hge := ownBlock_ge ho (Nat.le_refl _) g rfl
  have hc : ∀ j u, xs[j]? = some u → w.cell? ⟨g, 0 + j, none⟩ = some u := fun j u hj => by
    have := ho.cells (g := g) rfl j u hj
    rw [Nat.zero_add]
    rwa [show (⟨g, 0, none⟩ : Addr).add j = ⟨g, j, none⟩ from by unfold Addr.add; split <;> simp_all] at this
  refine ⟨g, rfl, hge, (ho.lt g rfl).2, fun i => ho.frozenAt i, fun i x hx => ?_⟩
  have := (hr.stays (q := fun b => b ≠ g) (fun b h _ => by omega) (Nat.le_refl _) (fun _ _ _ => rfl)).hc (off := 0) hc i x hx
  rwa [Nat.zero_add] at this
set_option maxRecDepth 20000 in
set_option maxHeartbeats 8000000 in
theorem own_any (L : List Hst) (a : Option Addr) (n cap : Nat) (w : World) (hn : n = L.length) (hl : n ≤ 30) (hm : ∀ (i : Nat) (h : Hst), L[i]? = some h → h.labels.length ≤ 101) (hL : Hosts w a L) : Calls Try.prog 43 #[.slice a n cap] w fun e w' => ∃ v, e = .returned v ∧ OwnR w.heap.size w' v L ∧ Below w.heap.size w w' := by
  have HC1 := Lib.hid (cloneH_any L a n cap w hn (by omega) hL)
  have HN := Lib.hid hn
  have HM := Lib.hid hm
  clear hn hm hL
  go_enter Try.func43, Try.ntmps43
  go_wp2_with fail
  refine Calls.mono HC1.out ?_
  rintro e' W1 ⟨v, xs, rfl, ho, hr, hb⟩
  obtain ⟨a', cp, hv, h1, h2, hR⟩ := clone_own HN.out ho hr
  rw [← HN.out] at hv
  subst hv
  have HR := Lib.hid hR
  have HB1 := Lib.hid hb
  clear ho hr hR hb
  go_wp2_with fail
  go_loopg [8] n (fun g y wr => ∃ j : Nat, j + g = n ∧ y = .int .i64 (j : Int) ∧ Hid (0 < L.length → ∃ g, a' = some ⟨g, 0, none⟩ ∧ OwnG w.heap.size g wr L) ∧ Hid (Below w.heap.size w wr))
  case atStart => exact ⟨0, by omega, rfl, HR, HB1⟩
  case round =>
    clear HR HB1
    obtain ⟨j, hj, rfl, HR, HB⟩ := hrel
    by_cases hjn : j < n
    · obtain ⟨h, hx⟩ : ∃ h, L[j]? = some h := ⟨_, List.getElem?_eq_getElem (by rw [← HN.out]; exact hjn)⟩
      obtain ⟨g, rfl, hO⟩ := HR.out (by have := HN.out; omega)
      obtain ⟨la, lc, hc, hlc, hlm, hlab, hsz⟩ := hO.row j h hx
      have c1 := hc 1 _ rfl
      have hf := hO.frz (j * 8 + 1)
      have hg := hO.lt
      have hj1 : (0 : Int) ≤ (j : Int) := by omega
      have hj2 : (j : Int) < (n : Int) := by omega
      have HC2 := Lib.hid (cloneB_any h.labels la h.labels.length lc wr rfl (HM.out j h hx) hlab.toL)
      have HO := Lib.hid hO
      have HX := Lib.hid hx
      obtain ⟨m, hm⟩ : ∃ m, h.labels.length = m := ⟨_, rfl⟩
      have HMM := Lib.hid hm
      rw [hm] at c1 HC2
      clear hc hlc hlm hlab hsz hO hx hm
      go_wp2_with fail
      refine Calls.mono HC2.out ?_
      rintro e' W3 ⟨b', c', rfl, hbc, hbm, hlb, hl⟩
      have HB3 := Lib.hid (HB.out.trans (hl.mono HB.out.size))
      have HO3 := HO.out.below hl
      have HQ := Lib.hid (OwnG.setLab HO3 HX.out HMM.out.symm hbc (hlb.stays (fun b h1 _ => by have := HO.out.lt; omega) (Nat.le_refl _) (fun _ _ _ => rfl)))
      have c1' := (hl.cell (p := ⟨g, j * 8 + 1, none⟩) hg).trans c1
      have hf' := (hl.frozen (p := ⟨g, j * 8 + 1, none⟩) hg).trans hf
      have HBS : Hid (Below w.heap.size w (W3.setCell ⟨g, j * 8 + 1, none⟩ (.slice b' m c'))) := Lib.hid (HB3.out.setCell (p := ⟨g, j * 8 + 1, none⟩) HO.out.lo _)
      clear hl HO3 hlb c1 hf
      go_wp2_with fail
      go_roundg (n - (j + 1))
      case measure => omega
      case rel => exact ⟨j + 1, by omega, by simp, Lib.hid (fun _ => ⟨g, rfl, HQ.out⟩), HBS⟩
    · obtain rfl : j = n := by omega
      go_wp2_with fail
      go_ret
      exact ⟨_, rfl, ⟨a', cp, by rw [HN.out]; rfl, h1, h2, HR.out⟩, HB.out⟩
end Go.Proofs.Ytnfmopmcckgfdaa
