/- Contract: the wheel's least time. -/
import Derived.Test.YtjoejdpoehpkiaaWheelNew
import Derived.Test.YtjoejdpoehpkiaaWheelRef
namespace Go.Proofs.Ytjoejdpoehpkiaa
open Go.ChangeShapes Go.WideShapes Go.ChangeAt Go.RowKit
open Go.Maps (Keyed)
set_option linter.unusedVariables false
open Wh
/-- the map of a wheel: of each id that waits its time -/
structure MapT (T : List Tm) (f : Int → Int) (h : Int → Bool) (c : Nat) : Prop where
  mem : ∀ id, h id = true ↔ ∃ t, t ∈ T ∧ t.id = id
  at' : ∀ t, t ∈ T → f t.id = t.at'
  len : c = T.length
/-- the least of those that have come by -/
def Seen (f : Int → Int) (h : Int → Bool) (left : Lit → Bool) (z : Int) (is : Bool) : Prop :=
  (is = false ∧ z = 0 ∧ ∀ id, h id = true → left (.int .i64 id) = true) ∨ (is = true ∧ (∃ id, h id = true ∧ f id = z) ∧ ∀ id, h id = true → left (.int .i64 id) = false → z ≤ f id)
theorem Seen.fin {T : List Tm} {f : Int → Int} {h : Int → Bool} {c : Nat} {left : Lit → Bool} {z : Int} {is : Bool} (hs : Seen f h left z is) (hl : ∀ kl, left kl = false) (hM : MapT T f h c) : NextZ T z is := by
  rcases hs with ⟨rfl, rfl, h1⟩ | ⟨rfl, ⟨id, h1, h2⟩, h3⟩
  · refine .inl ⟨?_, rfl, rfl⟩
    cases T with
    | nil => rfl
    | cons t l =>
      have := h1 t.id ((hM.mem t.id).2 ⟨t, by simp, rfl⟩)
      rw [hl] at this
      cases this
  · obtain ⟨t, ht, rfl⟩ := (hM.mem id).1 h1
    refine .inr ⟨rfl, ⟨t, ht, by rw [← h2, hM.at' t ht]⟩, fun u hu => ?_⟩
    rw [← hM.at' u hu]
    exact h3 u.id ((hM.mem u.id).2 ⟨u, hu, rfl⟩) (hl _)
theorem Seen.next {f : Int → Int} {h : Int → Bool} {left left' : Lit → Bool} {z : Int} {is : Bool} {x : Int} (hs : Seen f h left z is) (hx : h x = true) (hl : ∀ y : Int, left' (.int .i64 y) = (left (.int .i64 y) && !decide (y = x))) (hlt : is = false ∨ f x < z) : Seen f h left' (f x) true := by
  refine .inr ⟨rfl, ⟨x, hx, rfl⟩, fun id h1 h2 => ?_⟩
  rw [hl] at h2
  by_cases e : id = x
  · rw [e]; exact Int.le_refl _
  · have h3 : left (.int .i64 id) = false := by simpa [e] using h2
    rcases hs with ⟨rfl, _, h4⟩ | ⟨h5, _, h4⟩
    · rw [h4 id h1] at h3; cases h3
    · have := h4 id h1 h3
      rcases hlt with h6 | h6
      · rw [h5] at h6; cases h6
      · omega
theorem Seen.keep {f : Int → Int} {h : Int → Bool} {left left' : Lit → Bool} {z : Int} {x : Int} (hs : Seen f h left z true) (hl : ∀ y : Int, left' (.int .i64 y) = (left (.int .i64 y) && !decide (y = x))) (hge : ¬ f x < z) : Seen f h left' z true := by
  rcases hs with ⟨h1, _⟩ | ⟨_, h2, h4⟩
  · cases h1
  · refine .inr ⟨rfl, h2, fun id h5 h6 => ?_⟩
    rw [hl] at h6
    by_cases e : id = x
    · rw [e]; omega
    · exact h4 id h5 (by simpa [e] using h6)
/-- the iterator over the map, and what is kept -/
structure RgW (gm r q : Nat) (D : DataW Unit) (left : Lit → Bool) (cnt : Nat) (w wr : World) : Prop where
  rng : wr.ranges Try.prog 3 (plainElem Try.prog 2) gm r q D left cnt
  below : Below w.heap.size w wr
  l3 : w.heap.size ≤ r
theorem RgW.kept {gm r q : Nat} {D : DataW Unit} {left left' : Lit → Bool} {cnt cnt' : Nat} {w wr w' : World} (h : RgW gm r q D left cnt w wr) (hr : w'.ranges Try.prog 3 (plainElem Try.prog 2) gm r q D left' cnt') (hg : wr.grownBy w' (some r)) : RgW gm r q D left' cnt' w w' :=
  ⟨hr, h.below.grown hg h.below.size (fun k hk => by cases hk; exact h.l3), h.l3⟩
set_option maxRecDepth 20000 in
set_option maxHeartbeats 8000000 in
theorem wNext_any (gw gm q c : Nat) (f : Int → Int) (h : Int → Bool) (T : List Tm) (w : World) (hc : w.cell? ⟨gw, 2, none⟩ = some (.map (some gm))) (lw : gw < w.heap.size) (hB : BoxM gm q f h c w) (hM : MapT T f h c) :
    Calls Try.prog 12 #[.pointer (some ⟨gw, 0, none⟩)] w fun e w' => ∃ z is, e = .returned (.tuple #[.int .i64 z, .bool is]) ∧ NextZ T z is ∧ Below w.heap.size w w' := by
  obtain ⟨D, ho, htd, hd, hh, hcc⟩ := hB
  have HD := Lib.hid hd
  have HH := Lib.hid hh
  have HMT := Lib.hid hM
  obtain ⟨rr, hrr⟩ : ∃ g, w.heap.size = g := ⟨_, rfl⟩
  have HRR := Lib.hid hrr
  clear hrr
  go_enter Try.func12, Try.ntmps12
  go_wp2_with (first
    | (at_range; refine wpList_range_own _ rfl _ 43 rfl 3 2 keyInt Try.underlying43 _ gm q _ rfl ho ?_; intro w0 hrg0 hg0 hs0)
    | go_in)
  go_frame
  rw [HRR.out] at hrg0 ⊢
  have HRW : Hid (RgW gm rr q D (Maps.has D) c w w0) := Lib.hid ⟨by rw [← hcc]; exact hrg0, (Below.refl _ _).grown hg0 (Nat.le_refl _) (fun k hk => by cases hk), by rw [HRR.out]; exact Nat.le_refl _⟩
  have HS0 : Hid (Seen f h (Maps.has D) 0 false) := Lib.hid (.inl ⟨rfl, rfl, fun id h1 => by rw [HH.out]; exact h1⟩)
  have HLH : Hid (∀ z : Int, Maps.has D (.int .i64 z) = true → h z = true) := Lib.hid (fun z hz => by rw [← HH.out z]; exact hz)
  clear hrg0 hg0 hs0 ho htd hd hh hcc hc
  go_loopg [4, 5, 7] c (fun gg y x _ wx => ∃ (left : Lit → Bool) (z : Int) (is : Bool), y = .int .i64 z ∧ x = .bool is ∧ Hid (RgW gm rr q D left gg w wx) ∧ Hid (Seen f h left z is) ∧ Hid (∀ z : Int, left (.int .i64 z) = true → h z = true))
  case atStart => exact ⟨_, 0, false, rfl, rfl, HRW, HS0, HLH⟩
  case round =>
    clear HRW HS0 HLH
    obtain ⟨left, z, is, rfl, rfl, HRW, HSN, HLH⟩ := hrel
    go_wp2_with (first
      | (at_next; refine wpList_next_ranges_ii _ rfl _ rfl 3 2 .i64 .i64 keyInt Try.underlying3 Try.underlying2 gm rr q _ _ _ rfl HRW.out.rng ?_ ?_)
      | go_in)
    · intro hc0 hl0
      have HF := Lib.hid (HSN.out.fin hl0 HMT.out)
      have HBE := Lib.hid HRW.out.below
      clear hl0
      go_wp2_with fail
      go_ret2
      exact ⟨z, is, rfl, HF.out, HBE.out⟩
    · intro x cc w1 cnt1 hwx hwc hlx hat hrg1 hlt hg1 hs1 hen
      have hxh := HLH.out x hlx
      have hcf : cc = f x := by
        have h1 := hat (.lit (.int .i64 0))
        rw [HD.out] at h1
        simpa using h1.symm
      have HRW1 := Lib.hid (HRW.out.kept hrg1 hg1)
      have HLT := Lib.hid hlt
      obtain ⟨left1, hl1⟩ : ∃ l : Lit → Bool, (fun z => left z && !z.sameKey (.int .i64 x)) = l := ⟨_, rfl⟩
      have HL1 : Hid (∀ z : Int, left1 (.int .i64 z) = (left (.int .i64 z) && !decide (z = x))) := Lib.hid (fun z => by rw [← hl1]; simp [Lit.sameKey])
      rw [hl1] at HRW1
      have HLH1 : Hid (∀ z : Int, left1 (.int .i64 z) = true → h z = true) := Lib.hid (fun z hz => HLH.out z (by rw [HL1.out] at hz; simp at hz; exact hz.1))
      have HCF := Lib.hid hcf
      have HXH := Lib.hid hxh
      clear hl1 hlx hat hrg1 hg1 hs1 hlt hwx hwc hxh hcf
      cases is with
      | false =>
        have HSX : Hid (Seen f h left1 cc true) := Lib.hid (by rw [HCF.out]; exact HSN.out.next HXH.out HL1.out (.inl rfl))
        go_wp2_with fail
        go_roundg cnt1
        case measure => exact HLT.out
        case rel => exact ⟨left1, cc, true, rfl, rfl, HRW1, HSX, HLH1⟩
      | true =>
        cases hlt : decide (cc < z) with
        | true =>
          have HSX : Hid (Seen f h left1 cc true) := Lib.hid (by rw [HCF.out]; exact HSN.out.next HXH.out HL1.out (.inr (by rw [← HCF.out]; simpa using hlt)))
          go_wp2_with fail
          go_roundg cnt1
          case measure => exact HLT.out
          case rel => exact ⟨left1, cc, true, rfl, rfl, HRW1, HSX, HLH1⟩
        | false =>
          have HSX : Hid (Seen f h left1 z true) := Lib.hid (HSN.out.keep HL1.out (by rw [← HCF.out]; simpa using hlt))
          go_wp2_with fail
          go_roundg cnt1
          case measure => exact HLT.out
          case rel => exact ⟨left1, z, true, rfl, rfl, HRW1, HSX, HLH1⟩
end Go.Proofs.Ytjoejdpoehpkiaa
