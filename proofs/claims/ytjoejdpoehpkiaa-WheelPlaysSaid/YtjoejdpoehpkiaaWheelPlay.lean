/- The program's wheel beside the document's: what each call does to both; the walk of the law WheelPlays. -/
import Derived.Test.YtjoejdpoehpkiaaWheelAdv
import Derived.Test.YtjoejdpoehpkiaaActs
import Derived.Deep.CutBlock
import Derived.Deep.RegionHeld3
namespace Go.Proofs.Ytjoejdpoehpkiaa
open Go.ChangeShapes Go.WideShapes Go.ChangeAt Go.RowKit
set_option linter.unusedVariables false
open Wh
def RWE (G : Nat → Prop) (gr : Nat) (now : Int) (T : List Tm) (w : World) : Prop := ∃ v, RWh G gr now v T w
theorem RWE.below {G : Nat → Prop} {gr : Nat} {now : Int} {T : List Tm} {w w' : World} (h : RWE G gr now T w) (hb : Below w.heap.size w w') : RWE G gr now T w' := by obtain ⟨v, h⟩ := h; exact ⟨v, h.below hb⟩
theorem RWE.kept_all {G : Nat → Prop} {gr : Nat} {now : Int} {T : List Tm} {w w' : World} (h : RWE G gr now T w) (hb : ∀ x, G x → x < w.heap.size → w'.heap[x]? = w.heap[x]?) : RWE G gr now T w' := by obtain ⟨v, h⟩ := h; exact ⟨v, h.kept_all hb⟩
theorem RWE.small {G : Nat → Prop} {gr : Nat} {now : Int} {T : List Tm} {w : World} (h : RWE G gr now T w) : RWE (fun x => G x ∧ x < w.heap.size) gr now T w := by obtain ⟨v, h⟩ := h; exact ⟨v, h.small⟩
theorem RWE.wide {G G' : Nat → Prop} {gr : Nat} {now : Int} {T : List Tm} {w : World} (h : RWE G gr now T w) (hG : ∀ x, G x → G' x) : RWE G' gr now T w := by obtain ⟨v, h⟩ := h; exact ⟨v, h.wide hG⟩
structure Facts (k : Nat) (now : Int) (T : List Tm) : Prop where
  short : T.length ≤ 200
  came : Came T
  nows : 0 ≤ now ∧ now ≤ (k : Int) * 16777216
theorem PWE.facts {F : Nat → Prop} {gw k : Nat} {now : Int} {T : List Tm} {w : World} (h : PWE F gw k now T w) : Facts k now T := by
  obtain ⟨gm, born, V, S, f, hh, c, q, h⟩ := h
  exact ⟨h.in'.short, h.in'.came, h.in'.nows⟩
theorem AddS.uniq {now : Int} {T T1 T2 : List Tm} {t : Tm} {z1 z2 : Int} (h1 : AddS now T t z1 T1) (h2 : AddS now T t z2 T2) : z1 = z2 ∧ T1 = T2 := by
  rcases h1 with ⟨a1, rfl, rfl⟩ | ⟨a1, a2, rfl, rfl⟩ | ⟨a1, a2, ⟨u, a3, a4⟩, rfl, rfl⟩ | ⟨a1, a2, a3, a4, rfl, rfl⟩ | ⟨a1, a2, a3, a4, rfl, rfl⟩ <;> rcases h2 with ⟨b1, rfl, rfl⟩ | ⟨b1, b2, rfl, rfl⟩ | ⟨b1, b2, ⟨u', b3, b4⟩, rfl, rfl⟩ | ⟨b1, b2, b3, b4, rfl, rfl⟩ | ⟨b1, b2, b3, b4, rfl, rfl⟩ <;> first | exact ⟨rfl, rfl⟩ | omega | exact absurd a4 (b3 u a3) | exact absurd b4 (a3 u' b3)
theorem CanS.uniq {T T1 T2 : List Tm} {id z1 z2 : Int} (hc : Came T) (h1 : CanS T id z1 T1) (h2 : CanS T id z2 T2) : z1 = z2 ∧ T1 = T2 := by
  rcases h1 with ⟨a1, rfl, rfl⟩ | ⟨i, t, a1, a2, rfl, rfl⟩ <;> rcases h2 with ⟨b1, rfl, rfl⟩ | ⟨j, u, b1, b2, rfl, rfl⟩
  · exact ⟨rfl, rfl⟩
  · exact absurd b2 (a1 u (List.mem_of_getElem? b1))
  · exact absurd a2 (b1 t (List.mem_of_getElem? a1))
  · obtain ⟨h1, h2⟩ := List.getElem?_eq_some_iff.1 a1
    obtain ⟨h3, h4⟩ := List.getElem?_eq_some_iff.1 b1
    have e : i = j := by
      have hi := List.pairwise_iff_getElem.1 hc.ids
      rcases Nat.lt_trichotomy i j with h | h | h
      · exact absurd (by rw [h2, h4, a2, b2]) (hi i j h1 h3 h)
      · exact h
      · exact absurd (by rw [h2, h4, a2, b2]) (hi j i h3 h1 h)
    subst e
    exact ⟨rfl, rfl⟩
section
variable {F G : Nat → Prop} {gw gr k : Nat} {now : Int} {T T' : List Tm} {w : World} {z : Int}
theorem wAdd_all (x id : Int) (H : PWE F gw k now T w) (hk : k ≤ 300) (hx : -9223372036854775808 ≤ x ∧ x ≤ 9223372036854775807) (hid : (Lit.int .i64 id).wf = true) :
    Calls Try.prog 5 #[.pointer (some ⟨gw, 0, none⟩), .int .i64 x, .int .i64 id] w fun e w' => ∃ bo z T', e = .returned (.int .i64 z) ∧ AddS now T ⟨x, id, bo⟩ z T' ∧ PWE (fun y => F y ∨ w.heap.size ≤ y) gw (k + 1) now T' w' ∧ Kept F w w' := by
  refine (wAdd_any F gw k now T x id w H hk hx hid).mono ?_
  rintro e w' ⟨⟨a, b, bo⟩, z, T', h1, h2, h3, h4, h5, h6⟩
  simp only at h1 h2
  subst h1 h2
  exact ⟨bo, z, T', h3, h4, h5, h6⟩
theorem rAdd_all {x id bo : Int} (h : RWE G gr now T w) (hf : Facts k now T) (hk : k ≤ 300) (hx : -9223372036854775808 ≤ x ∧ x ≤ 9223372036854775807) (hs : AddS now T ⟨x, id, bo⟩ z T') :
    Calls Try.prog 6 #[.pointer (some ⟨gr, 0, none⟩), .int .i64 x, .int .i64 id] w fun e w' => e = .returned (.int .i64 z) ∧ RWE (fun y => G y ∨ w.heap.size ≤ y) gr now T' w' ∧ Kept G w w' := by
  obtain ⟨v, h⟩ := h
  have hn := hf.nows
  refine (rAdd_any G gr now v T ⟨x, id, bo⟩ w h hf.short (by omega) hx).mono ?_
  rintro e w' ⟨z2, T2, v2, rfl, h4, h5, h6⟩
  obtain ⟨rfl, rfl⟩ := hs.uniq h4
  exact ⟨rfl, ⟨v2, h5⟩, h6⟩
theorem rCancel_all {id : Int} (h : RWE G gr now T w) (hf : Facts k now T) (hs : CanS T id z T') :
    Calls Try.prog 8 #[.pointer (some ⟨gr, 0, none⟩), .int .i64 id] w fun e w' => e = .returned (.int .i64 z) ∧ RWE (fun y => G y ∨ w.heap.size ≤ y) gr now T' w' ∧ Kept G w w' := by
  obtain ⟨v, h⟩ := h
  refine (rCancel_any G gr now v T id w h hf.short).mono ?_
  rintro e w' ⟨z2, T2, v2, rfl, h4, h5, h6⟩
  obtain ⟨rfl, rfl⟩ := hs.uniq hf.came h4
  exact ⟨rfl, ⟨v2, h5⟩, h6⟩
theorem rAdvance_arg {n : Int} (h : RWE G gr now T w) (hf : Facts k now T) (hk : k ≤ 300) (hn : ¬ (0 ≤ n ∧ n ≤ 16777216)) :
    Calls Try.prog 10 #[.pointer (some ⟨gr, 0, none⟩), .int .i64 n] w fun e w' => e = .returned (.tuple #[.slice none 0 0, .int .i64 1]) ∧ w' = w := by
  obtain ⟨v, h⟩ := h
  have hn2 := hf.nows
  refine (rAdvance_any G gr now v T n w h hf.short hf.came (by omega)).mono ?_
  rintro e w' (⟨_, h1, h2⟩ | ⟨h1, _⟩)
  · exact ⟨h1, h2⟩
  · exact absurd h1 hn
theorem rAdvance_all {n : Int} {out left : List Tm} (h : RWE G gr now T w) (hf : Facts k now T) (hk : k ≤ 300) (hn : 0 ≤ n ∧ n ≤ 16777216) (hu : Upto T out left (now + n)) :
    Calls Try.prog 10 #[.pointer (some ⟨gr, 0, none⟩), .int .i64 n] w fun e w' => ∃ vo, e = .returned (.tuple #[vo, .int .i64 0]) ∧ RWE (fun y => G y ∨ w.heap.size ≤ y) gr (now + n) left w' ∧ IsRow w' vo out.length (fires out) ∧ Kept G w w' := by
  obtain ⟨v, h⟩ := h
  have hn2 := hf.nows
  refine (rAdvance_any G gr now v T n w h hf.short hf.came (by omega)).mono ?_
  rintro e w' (⟨h1, _⟩ | ⟨_, out2, left2, vo, v', h1, h2, h3, h4, h5⟩)
  · exact absurd hn h1
  · obtain ⟨rfl, rfl⟩ := hu.uniq h2
    obtain ⟨a, cap, e, _, _, _, _, hv⟩ := h4.form
    exact ⟨vo, h1, ⟨v', h3⟩, ⟨a, cap, e, hv⟩, h5⟩
theorem wNext_all (H : PWE F gw k now T w) : Calls Try.prog 12 #[.pointer (some ⟨gw, 0, none⟩)] w fun e w' => ∃ z is, e = .returned (.tuple #[.int .i64 z, .bool is]) ∧ NextZ T z is ∧ Below w.heap.size w w' := by
  obtain ⟨gm, born, V, S, f, h, c, q, H⟩ := H
  exact wNext_any gw gm q c f h T w H.ww.c2 H.ww.var.lt H.map H.in'.mt
theorem rNext_all {is : Bool} (h : RWE G gr now T w) (hf : Facts k now T) (hz : NextZ T z is) : Calls Try.prog 13 #[.pointer (some ⟨gr, 0, none⟩)] w fun e w' => e = .returned (.tuple #[.int .i64 z, .bool is]) ∧ Below w.heap.size w w' := by
  obtain ⟨v, h⟩ := h
  refine (rNext_any G gr now v T w h hf.short).mono ?_
  rintro e w' ⟨z2, is2, rfl, h1, h2⟩
  obtain ⟨rfl, rfl⟩ := hz.uniq h1
  exact ⟨rfl, h2⟩
theorem Now_any (hc : w.cell? ⟨gw, 0, none⟩ = some (.int .i64 now)) (hl : gw < w.heap.size) : Calls Try.prog 14 #[.pointer (some ⟨gw, 0, none⟩)] w fun e w' => e = .returned (.int .i64 now) ∧ w' = w := by
  go_enter Try.func14, Try.ntmps14
  go_wp2_with fail
  go_ret
  exact ⟨rfl, rfl⟩
theorem PWE.cell (H : PWE F gw k now T w) : w.cell? ⟨gw, 0, none⟩ = some (.int .i64 now) ∧ gw < w.heap.size := by
  obtain ⟨gm, born, V, S, f, h, c, q, H⟩ := H
  exact ⟨H.ww.c0, H.ww.var.lt⟩
theorem RWE.cell (H : RWE G gr now T w) : w.cell? ⟨gr, 0, none⟩ = some (.int .i64 now) ∧ gr < w.heap.size := by
  obtain ⟨v, H⟩ := H
  exact ⟨H.c0, H.var.lt⟩
end
/-- both wheels, apart from each other -/
structure Playing (B gw gr k : Nat) (F G : Nat → Prop) (now : Int) (T : List Tm) (w wr : World) : Prop where
  pw : PWE F gw k now T wr
  rw' : RWE G gr now T wr
  dis : ∀ x, F x → ¬ G x
  lo : ∀ x, F x ∨ G x → B ≤ x
  hi : ∀ x, F x ∨ G x → x < wr.heap.size
  below : Below B w wr
section
variable {B gw gr k : Nat} {F G : Nat → Prop} {now now' : Int} {T T' : List Tm} {w wr wx w1 w2 : World}
theorem Playing.step (h : Playing B gw gr k F G now T w wr) (hb : Below wr.heap.size wr wx) (hB : B ≤ wr.heap.size) : Playing B gw gr k F G now T w wx :=
  ⟨h.pw.below hb, h.rw'.below hb, h.dis, h.lo, fun x hx => Nat.lt_of_lt_of_le (h.hi x hx) hb.size, h.below.trans (hb.mono hB)⟩
theorem Playing.acted (h : Playing B gw gr k F G now T w wr) (hB : B ≤ wr.heap.size)
    (hp : PWE (fun x => F x ∨ wr.heap.size ≤ x) gw (k + 1) now' T' w1) (hk : Kept F wr w1) (hr : RWE (fun x => G x ∨ w1.heap.size ≤ x) gr now' T' w2) (hk2 : Kept G w1 w2) : ∃ F' G', Playing B gw gr (k + 1) F' G' now' T' w w2 := by
  have s1 := hk.size
  have s2 := hk2.size
  refine ⟨_, _, hp.small.kept_all fun x hx hxl => hk2.block x hxl fun hg => ?_, hr.small, fun x hx hg => ?_, fun x hx => ?_, fun x hx => ?_, ?_⟩
  · rcases hx.1 with h1 | h1
    · exact h.dis x h1 hg
    · have := h.hi x (.inr hg); omega
  · rcases hg.1 with h2 | h2
    · rcases hx.1 with h1 | h1
      · exact h.dis x h1 h2
      · have := h.hi x (.inr h2); omega
    · omega
  · rcases hx with ⟨h1 | h1, _⟩ | ⟨h1 | h1, _⟩
    · exact h.lo x (.inl h1)
    · omega
    · exact h.lo x (.inr h1)
    · omega
  · rcases hx with ⟨_, h1⟩ | ⟨_, h1⟩
    · omega
    · exact h1
  · exact h.below.trans ((hk.toBelow hB (fun x hx => h.lo x (.inl hx))).trans (hk2.toBelow (by omega) (fun x hx => h.lo x (.inr hx))))
theorem Playing.rwAt (h : Playing B gw gr k F G now T w wr) (hk : Kept F wr w1) : RWE G gr now T w1 := h.rw'.kept_all fun x hx hxl => hk.block x hxl fun hf => h.dis x hf hx
end
/-- a block of the round's own -/
structure Act4 (b : Nat) (t : Ac) (w : World) : Prop where
  c0 : w.cell? ⟨b, 0, none⟩ = some (.int .i64 t.kind)
  c1 : w.cell? ⟨b, 1, none⟩ = some (.int .i64 t.id)
  c3 : w.cell? ⟨b, 3, none⟩ = some (.int .i64 t.at')
  lt : b < w.heap.size
theorem Act4.kept {F : Nat → Prop} {b : Nat} {t : Ac} {w w' : World} (h : Act4 b t w) (hk : Kept F w w') (hn : ¬ F b) : Act4 b t w' :=
  ⟨(hk.cell (p := ⟨b, 0, none⟩) h.lt hn).trans h.c0, (hk.cell (p := ⟨b, 1, none⟩) h.lt hn).trans h.c1, (hk.cell (p := ⟨b, 3, none⟩) h.lt hn).trans h.c3, Nat.lt_of_lt_of_le h.lt hk.size⟩
theorem Act4.two {b : Nat} {t : Ac} {w : World} (h : Act4 b t w) : w.cell? ⟨b, 1, none⟩ = some (.int .i64 t.id) ∧ w.cell? ⟨b, 3, none⟩ = some (.int .i64 t.at') := ⟨h.c1, h.c3⟩
theorem rwh_new (w : World) : RWh (fun k => w.heap.size ≤ k) w.heap.size 0 (.slice none 0 0) [] (w.alloc (.cells #[.int .i64 0, .slice none 0 0] 28)) :=
  ⟨World.rowIs_alloc w #[.int .i64 0, .slice none 0 0] 28 _ (fun i hi => by
    have hi : i < 2 := hi
    have : i = 0 ∨ i = 1 := by omega
    rcases this with rfl | rfl <;> rfl), Nat.le_refl _, spanRow.nil _ _ _ _, fun k hk => by simp [Value.ownBlock] at hk⟩
end Go.Proofs.Ytjoejdpoehpkiaa
