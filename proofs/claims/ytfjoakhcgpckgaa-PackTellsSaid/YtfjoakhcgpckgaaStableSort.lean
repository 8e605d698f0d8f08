/- Contract: a stable sort of a row of rising numbers (slices.SortStableFunc). -/
import Derived.Test.YtfjoakhcgpckgaaStableRec
namespace Go.Proofs.Ytfjoakhcgpckgaa
open Go.ChangeShapes Go.WideShapes Go.ChangeAt Go.RowKit
set_option linter.unusedVariables false
open St
theorem symAll (K : FuncId) (hE : Enters K) (cv : Value) (cz : Int → Int → Int) (kf : Int → Int) (g cp : Nat) (w0 : World) (L0 : List Int) (n : Nat) (hC : CmpOk K cv cz g w0 L0) (hZ : CmpBy cz kf L0) (h4 : n ≤ 1000) : ∀ N, SymFor K cv kf g cp w0 L0 n N := by
  intro N
  induction N with
  | zero => intro A U V B a m b w h; exact absurd h (by omega)
  | succ N ih =>
    intro A U V B a m b w hlt h hU hV hL ha hm hb hn hu0 hv0
    by_cases h1 : U.length = 1
    · obtain ⟨u, rfl⟩ := List.length_eq_one_iff.1 h1
      exact symL_any K hE cv cz kf g cp w0 L0 A V B u a m b n w hC hZ h hV hL ha hm hb hn h4
    · by_cases h2 : V.length = 1
      · obtain ⟨v, rfl⟩ := List.length_eq_one_iff.1 h2
        exact symR_any K hE cv cz kf g cp w0 L0 A U B v a m b n w hC hZ h hU hL ha hm hb hn h4 h1
      · exact symN_any K hE cv cz kf g cp w0 L0 A U V B a m b n (U.length + V.length) w hC hZ (fun A' U' V' B' a' m' b' w' hlt' => ih A' U' V' B' a' m' b' w' (by omega)) rfl h hU hV hL ha hm hb hn h4 (by omega) (by omega)
set_option maxRecDepth 20000 in
set_option maxHeartbeats 1600000 in
theorem ins_none (cf : Value) (v : Value) (a : Nat) (w : World) (h4 : a ≤ 1000) :
    Calls Try.prog 214 #[v, .int .i64 a, .int .i64 a, cf] w fun e w' => e = .returned (.tuple #[]) ∧ w' = w := by
  have w1 : IntKind.i64.wrap ((a : Int) + 1) = (a : Int) + 1 := IntWalk.i64_in _ (by omega)
  have hlt : ¬ ((a : Int) + 1 < (a : Int)) := by omega
  go_enter Try.func214, Try.ntmps214
  go_wp2_with fail
  go_loopg [8] 1 (fun gk x wr => x = .int .i64 ((a : Int) + 1) ∧ wr = w)
  case atStart => exact ⟨rfl, rfl⟩
  case round =>
    obtain ⟨rfl, rfl⟩ := hrel
    go_wp2_with fail
    go_end0
    exact ⟨rfl, rfl⟩
/-- blocks of s numbers each, and what is left; each in order; a block's numbers are less than the next one's -/
structure Blk (kf : Int → Int) (s : Nat) (bs : List (List Int)) (R : List Int) : Prop where
  each : ∀ b, b ∈ bs → b.length = s ∧ Srtd kf b
  less : (bs ++ [R]).Pairwise Less2
theorem less2_perm {U U' V V' : List Int} (h : Less2 U V) (hu : U'.Perm U) (hv : V'.Perm V) : Less2 U' V' := fun u h1 v h2 => h u (hu.mem_iff.1 h1) v (hv.mem_iff.1 h2)
theorem less_join {X Y : List (List Int)} {b1 b2 W : List Int} (h : (X ++ b1 :: b2 :: Y).Pairwise Less2) (hW : W.Perm (b1 ++ b2)) : (X ++ W :: Y).Pairwise Less2 := by
  rw [List.pairwise_append, List.pairwise_cons, List.pairwise_cons] at h
  obtain ⟨h1, ⟨h2, h3, h4⟩, h5⟩ := h
  rw [List.pairwise_append, List.pairwise_cons]
  have key : ∀ (P : Int → Prop), (∀ v, v ∈ b1 → P v) → (∀ v, v ∈ b2 → P v) → ∀ v, v ∈ W → P v := fun P p1 p2 v hv => by
    rcases List.mem_append.1 (hW.mem_iff.1 hv) with h | h
    · exact p1 v h
    · exact p2 v h
  refine ⟨h1, ⟨fun y hy => ?_, h4⟩, fun x hx y hy => ?_⟩
  · intro u hu v hv
    exact key (fun u => u < v) (fun u hu => h2 y (List.mem_cons_of_mem _ hy) u hu v hv) (fun u hu => h3 y hy u hu v hv) u hu
  · rcases List.mem_cons.1 hy with rfl | hy
    · intro u hu v hv
      exact key (fun v => u < v) (fun v hv => h5 x hx b1 (by simp) u hu v hv) (fun v hv => h5 x hx b2 (by simp) u hu v hv) v hv
    · exact h5 x hx y (by simp [hy])
theorem less_mid {X Y : List (List Int)} {b1 b2 : List Int} (h : (X ++ b1 :: b2 :: Y).Pairwise Less2) : Less2 b1 b2 := by
  rw [List.pairwise_append, List.pairwise_cons] at h
  exact h.2.1.1 b2 (by simp)
theorem less_split {X : List (List Int)} {R S R' : List Int} {T : List Int} (h : (X ++ [R]).Pairwise Less2) (hR : R = T ++ R') (hA : Asc R) (hS : S.Perm T) : (X ++ [S] ++ [R']).Pairwise Less2 := by
  rw [List.pairwise_append] at h
  obtain ⟨h1, _, h3⟩ := h
  subst hR
  rw [List.append_assoc, List.pairwise_append]
  refine ⟨h1, ?_, fun x hx y hy => ?_⟩
  · rw [List.singleton_append, List.pairwise_cons]
    refine ⟨fun y hy u hu v hv => ?_, by simp⟩
    rw [List.mem_singleton] at hy
    subst hy
    exact (List.pairwise_append.1 hA).2.2 u (hS.mem_iff.1 hu) v hv
  · intro u hu v hv
    have h5 := h3 x hx (T ++ R') (by simp) u hu
    rcases List.mem_append.1 hy with h | h
    · rw [List.mem_singleton] at h; subst h
      exact h5 v (List.mem_append_left _ (hS.mem_iff.1 hv))
    · rw [List.mem_singleton] at h; subst h
      exact h5 v (List.mem_append_right _ hv)
theorem flat_len {bs : List (List Int)} {s : Nat} (h : ∀ b, b ∈ bs → b.length = s) : bs.flatten.length = bs.length * s := by
  induction bs with
  | nil => simp
  | cons b bs ih =>
    rw [List.flatten_cons, List.length_append, h b (by simp), ih (fun b hb => h b (by simp [hb])), List.length_cons, Nat.add_mul, Nat.one_mul, Nat.add_comm]
/-- what the first loop keeps -/
structure Blk0 (g cp : Nat) (w0 : World) (kf : Int → Int) (L0 : List Int) (a : Nat) (bs : List (List Int)) (R : List Int) (w : World) : Prop where
  srt : Srt g cp w0 L0 (bs.flatten ++ R) w
  each : ∀ b, b ∈ bs → b.length = 20 ∧ Srtd kf b
  less : (bs ++ [R]).Pairwise Less2
  asc : Asc R
  at' : bs.flatten.length = a
/-- .. the second one -/
structure Blk1 (g cp : Nat) (w0 : World) (kf : Int → Int) (L0 : List Int) (s : Nat) (bs : List (List Int)) (R : List Int) (w : World) : Prop where
  srt : Srt g cp w0 L0 (bs.flatten ++ R) w
  each : ∀ b, b ∈ bs → b.length = s ∧ Srtd kf b
  less : (bs ++ [R]).Pairwise Less2
  rest : R.length < s ∧ Srtd kf R
/-- .. and the inner one -/
structure Blk2 (g cp : Nat) (w0 : World) (kf : Int → Int) (L0 : List Int) (s a : Nat) (ds bs : List (List Int)) (R : List Int) (w : World) : Prop where
  srt : Srt g cp w0 L0 (ds.flatten ++ bs.flatten ++ R) w
  done : ∀ b, b ∈ ds → b.length = 2 * s ∧ Srtd kf b
  each : ∀ b, b ∈ bs → b.length = s ∧ Srtd kf b
  less : (ds ++ bs ++ [R]).Pairwise Less2
  rest : R.length < s ∧ Srtd kf R
  at' : ds.flatten.length = a
theorem Srt.len {g cp : Nat} {w0 : World} {L0 L : List Int} {w : World} (h : Srt g cp w0 L0 L w) {n : Nat} (hn : L0.length = n) : L.length = n := h.perm.length_eq.trans hn
theorem Blk0.next {g cp : Nat} {w0 : World} {kf : Int → Int} {L0 : List Int} {a : Nat} {bs : List (List Int)} {R T R' S : List Int} {w w' : World} (h : Blk0 g cp w0 kf L0 a bs R w) (hR : R = T ++ R') (hT : T.length = 20) (hs : Srt g cp w0 L0 (bs.flatten ++ S ++ R') w') (h1 : Srtd kf S) (h2 : S.Perm T) : Blk0 g cp w0 kf L0 (a + 20) (bs ++ [S]) R' w' := by
  refine ⟨by simpa using hs, fun b hb => ?_, less_split h.less hR h.asc h2, ?_, ?_⟩
  · rcases List.mem_append.1 hb with hb | hb
    · exact h.each b hb
    · rw [List.mem_singleton] at hb; subst hb
      exact ⟨h2.length_eq.trans hT, h1⟩
  · have := h.asc
    rw [hR] at this
    exact (List.pairwise_append.1 this).2.1
  · rw [List.flatten_append, List.length_append, h.at']
    simp [h2.length_eq, hT]
theorem Blk0.last {g cp : Nat} {w0 : World} {kf : Int → Int} {L0 : List Int} {a : Nat} {bs : List (List Int)} {R S : List Int} {w w' : World} (h : Blk0 g cp w0 kf L0 a bs R w) (hR : R.length < 20) (hs : Srt g cp w0 L0 (bs.flatten ++ S) w') (h1 : Srtd kf S) (h2 : S.Perm R) : Blk1 g cp w0 kf L0 20 bs S w' := by
  refine ⟨hs, h.each, ?_, ⟨by rw [h2.length_eq]; exact hR, h1⟩⟩
  have := h.less
  rw [List.pairwise_append] at this ⊢
  refine ⟨this.1, by simp, fun x hx y hy => ?_⟩
  rw [List.mem_singleton] at hy
  subst hy
  exact less2_perm (this.2.2 x hx R (by simp)) (List.Perm.refl _) h2
theorem Blk1.start2 {g cp : Nat} {w0 : World} {kf : Int → Int} {L0 : List Int} {s : Nat} {bs : List (List Int)} {R : List Int} {w : World} (h : Blk1 g cp w0 kf L0 s bs R w) : Blk2 g cp w0 kf L0 s 0 [] bs R w :=
  ⟨by simpa using h.srt, fun b hb => by simp at hb, h.each, by simpa using h.less, h.rest, rfl⟩
theorem Blk2.two {g cp : Nat} {w0 : World} {kf : Int → Int} {L0 : List Int} {s a : Nat} {ds bs : List (List Int)} {R : List Int} {w : World} (h : Blk2 g cp w0 kf L0 s a ds bs R w) {n : Nat} (hn : L0.length = n) (ha : a + 2 * s ≤ n) : ∃ b1 b2 rest, bs = b1 :: b2 :: rest := by
  have h1 := h.srt.len hn
  rw [List.length_append, List.length_append, h.at', flat_len (fun b hb => (h.each b hb).1)] at h1
  have h2 := h.rest.1
  match bs, h1 with
  | [], h1 => simp at h1; omega
  | [b], h1 => simp at h1; omega
  | b1 :: b2 :: rest, _ => exact ⟨b1, b2, rest, rfl⟩
theorem Blk2.step {g cp : Nat} {w0 : World} {kf : Int → Int} {L0 : List Int} {s a : Nat} {ds rest : List (List Int)} {b1 b2 R W : List Int} {w w' : World} (h : Blk2 g cp w0 kf L0 s a ds (b1 :: b2 :: rest) R w) (hs : Srt g cp w0 L0 (ds.flatten ++ W ++ (rest.flatten ++ R)) w') (hm : Merged kf b1 b2 W) : Blk2 g cp w0 kf L0 s (a + 2 * s) (ds ++ [W]) rest R w' := by
  have l1 := (h.each b1 (by simp)).1
  have l2 := (h.each b2 (by simp)).1
  refine ⟨by simpa using hs, fun b hb => ?_, fun b hb => h.each b (by simp [hb]), ?_, h.rest, ?_⟩
  · rcases List.mem_append.1 hb with hb | hb
    · exact h.done b hb
    · rw [List.mem_singleton] at hb; subst hb
      exact ⟨by rw [hm.len]; omega, hm.2⟩
  · have := less_join (X := ds) (Y := rest ++ [R]) (b1 := b1) (b2 := b2) (W := W) (by simpa using h.less) hm.1
    simpa using this
  · rw [List.flatten_append, List.length_append, h.at']
    simp [hm.len, l1, l2]; omega
/-- behind the inner loop: at most one block is left -/
theorem Blk2.one {g cp : Nat} {w0 : World} {kf : Int → Int} {L0 : List Int} {s a : Nat} {ds bs : List (List Int)} {R : List Int} {w : World} (h : Blk2 g cp w0 kf L0 s a ds bs R w) {n : Nat} (hn : L0.length = n) (ha : ¬ a + 2 * s ≤ n) : (bs = [] ∧ n = a + R.length) ∨ ∃ b, bs = [b] ∧ n = a + s + R.length := by
  have h1 := h.srt.len hn
  rw [List.length_append, List.length_append, h.at', flat_len (fun b hb => (h.each b hb).1)] at h1
  match bs, h1 with
  | [], h1 => simp at h1; exact .inl ⟨rfl, by omega⟩
  | [b], h1 => simp at h1; exact .inr ⟨b, rfl, by omega⟩
  | b1 :: b2 :: rest, h1 =>
    simp only [List.length_cons] at h1
    have : 2 * s ≤ (rest.length + 1 + 1) * s := Nat.mul_le_mul_right s (by omega)
    omega
theorem Blk2.out0 {g cp : Nat} {w0 : World} {kf : Int → Int} {L0 : List Int} {s a : Nat} {ds : List (List Int)} {R : List Int} {w : World} (h : Blk2 g cp w0 kf L0 s a ds [] R w) : Blk1 g cp w0 kf L0 (2 * s) ds R w :=
  ⟨by simpa using h.srt, h.done, by simpa using h.less, ⟨by have := h.rest.1; omega, h.rest.2⟩⟩
theorem Blk2.out1 {g cp : Nat} {w0 : World} {kf : Int → Int} {L0 : List Int} {s a : Nat} {ds : List (List Int)} {b R W : List Int} {w w' : World} (h : Blk2 g cp w0 kf L0 s a ds [b] R w) (hs : Srt g cp w0 L0 (ds.flatten ++ W) w') (hm : Merged kf b R W) : Blk1 g cp w0 kf L0 (2 * s) ds W w' := by
  have l1 := (h.each b (by simp)).1
  refine ⟨hs, h.done, ?_, ⟨by rw [hm.len]; have := h.rest.1; omega, hm.2⟩⟩
  exact less_join (X := ds) (Y := []) (b1 := b) (b2 := R) (W := W) (by simpa using h.less) hm.1
/-- at the end: one row in order -/
theorem Blk1.fin {g cp : Nat} {w0 : World} {kf : Int → Int} {L0 : List Int} {s : Nat} {bs : List (List Int)} {R : List Int} {w : World} (h : Blk1 g cp w0 kf L0 s bs R w) {n : Nat} (hn : L0.length = n) (hs : n ≤ s) : Srtd kf (bs.flatten ++ R) := by
  have h1 := h.srt.len hn
  rw [List.length_append, flat_len (fun b hb => (h.each b hb).1)] at h1
  have h2 := h.rest.1
  match bs, h1, h with
  | [], h1, h => simpa using h.rest.2
  | [b], h1, h =>
    simp at h1
    have : R = [] := List.eq_nil_of_length_eq_zero (by omega)
    subst this
    simpa using (h.each b (by simp)).2
  | b1 :: b2 :: rest, h1, h =>
    simp only [List.length_cons] at h1
    have : 2 * s ≤ (rest.length + 1 + 1) * s := Nat.mul_le_mul_right s (by omega)
    omega
end Go.Proofs.Ytfjoakhcgpckgaa
