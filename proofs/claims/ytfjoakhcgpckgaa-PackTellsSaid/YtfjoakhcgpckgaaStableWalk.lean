/- The walk of slices.SortStableFunc over a row of rising numbers. -/
import Derived.Test.YtfjoakhcgpckgaaStableSort
namespace Go.Proofs.Ytfjoakhcgpckgaa
open Go.ChangeShapes Go.WideShapes Go.ChangeAt Go.RowKit
set_option linter.unusedVariables false
open St
set_option maxRecDepth 20000 in
set_option maxHeartbeats 1600000 in
theorem stableC_any (K : FuncId) (hE : Enters K) (cv : Value) (cz : Int → Int → Int) (kf : Int → Int) (g cp : Nat) (w0 : World) (L0 : List Int) (n : Nat) (w : World) (hC : CmpOk K cv cz g w0 L0) (hZ : CmpBy cz kf L0) (h : Srt g cp w0 L0 L0 w) (hA : Asc L0) (hn : L0.length = n) (h4 : n ≤ 900) :
    Calls Try.prog 185 #[.slice (some ⟨g, 0, none⟩) n cp, .int .i64 n, .func (.func K) #[] #[cv]] w fun e w' => e = .returned (.tuple #[]) ∧ ∃ L, Srt g cp w0 L0 L w' ∧ Srtd kf L := by
  have HC := Lib.hid hC
  have HZ := Lib.hid hZ
  have HE := Lib.hid hE
  have HSY := Lib.hid (symAll K hE cv cz kf g cp w0 L0 n hC hZ (by omega))
  have HN := Lib.hid hn
  have HB0 : Hid (Blk0 g cp w0 kf L0 0 [] L0 w) := Lib.hid ⟨by simpa using h, fun b hb => by simp at hb, by simp, hA, rfl⟩
  have h1000 : n ≤ 1000 := by omega
  clear hC hZ h hA hn hE
  go_enter Try.func185, Try.ntmps185
  go_wp2_with fail
  go_loopg [7, 8] (n + 1) (fun gk x y wr => ∃ (a c : Nat) (bs : List (List Int)) (R : List Int), a + 20 = c ∧ a ≤ n ∧ n + 1 ≤ gk + a ∧ x = .int .i64 (a : Int) ∧ y = .int .i64 (c : Int) ∧ Hid (Blk0 g cp w0 kf L0 a bs R wr))
  case atStart => exact ⟨0, 20, [], L0, rfl, by omega, by omega, rfl, rfl, HB0⟩
  case round => as_aux_lemma =>
    clear HB0
    obtain ⟨a, c, bs, R, hac, han, hg, rfl, rfl, HB⟩ := hrel
    have HRL : Hid (a + R.length = n) := Lib.hid (by have h1 := HB.out.srt.len HN.out; rw [List.length_append, HB.out.at'] at h1; exact h1)
    by_cases hcn : c ≤ n
    · obtain ⟨T, R', hT1, hT2, hR⟩ : ∃ T R', T.length = 20 ∧ R'.length + 20 = R.length ∧ R = T ++ R' := ⟨R.take 20, R.drop 20, by rw [List.length_take]; have := HRL.out; omega, by rw [List.length_drop]; have := HRL.out; omega, (List.take_append_drop 20 R).symm⟩
      have HT := Lib.hid hT1
      have HR := Lib.hid hR
      have HS1 : Hid (Srt g cp w0 L0 (bs.flatten ++ T ++ R') wr) := Lib.hid (by have h1 := HB.out.srt; rw [hR] at h1; simpa using h1)
      have HAT : Hid (Asc T) := Lib.hid (by have h1 := HB.out.asc; rw [hR] at h1; exact (List.pairwise_append.1 h1).1)
      have HNL : Hid ((bs.flatten ++ T ++ R').length = n) := Lib.hid (HS1.out.len HN.out)
      have hac2 : a + T.length = c := by omega
      have hp : 0 < T.length := by omega
      have wc : IntKind.i64.wrap ((c : Int) + 20) = ((c + 20 : Nat) : Int) := by rw [IntWalk.i64_in _ (by omega)]; omega
      have hcn2 : (c : Int) ≤ (n : Int) := by omega
      clear hT1 hT2 hR
      go_wp2_with (go_at_call 214; refine Calls.mono (ins_any K HE.out cv cz kf g cp w0 L0 bs.flatten T R' a c n _ HC.out HZ.out HS1.out HAT.out HB.out.at' hac2 HNL.out h1000 hp) ?_; rintro e w2 ⟨rfl, S, hs, h1, h2⟩; have HB2 := Lib.hid (HB.out.next HR.out HT.out hs h1 h2); clear hs h1 h2)
      go_roundg (gk - 1)
      case measure => omega
      case rel => exact ⟨c, c + 20, _, _, rfl, by omega, by omega, rfl, rfl, by rw [← hac]; exact HB2⟩
    · have hcn2 : ¬ (c : Int) ≤ (n : Int) := by omega
      have hR20 : R.length < 20 := by have := HRL.out; omega
      have HR20 := Lib.hid hR20
      go_upto_region 6 with fail
      go_cut [] (fun W => ∃ bs' R', Blk1 g cp w0 kf L0 20 bs' R' W)
      case first => as_aux_lemma =>
        by_cases hR0 : R = []
        · have han2 : a = n := by have := HRL.out; rw [hR0] at this; simpa using this
          have HB1 := Lib.hid (HB.out.last HR20.out (show Srt g cp w0 L0 (bs.flatten ++ []) wr from by have h1 := HB.out.srt; rw [hR0] at h1; exact h1) (by simp [Srtd]) (by rw [hR0]))
          subst han2
          go_wp2_with (go_at_call 214; refine Calls.mono (ins_none _ _ a _ h1000) ?_; rintro e w2 ⟨rfl, rfl⟩)
          go_meet
          exact ⟨bs, [], HB1.out⟩
        · have hp : 0 < R.length := List.length_pos_iff.2 hR0
          have HS1 : Hid (Srt g cp w0 L0 (bs.flatten ++ R ++ []) wr) := Lib.hid (by simpa using HB.out.srt)
          have HNL : Hid ((bs.flatten ++ R ++ []).length = n) := Lib.hid (HS1.out.len HN.out)
          go_wp2_with (go_at_call 214; refine Calls.mono (ins_any K HE.out cv cz kf g cp w0 L0 bs.flatten R [] a n n _ HC.out HZ.out HS1.out HB.out.asc HB.out.at' HRL.out HNL.out h1000 hp) ?_; rintro e w2 ⟨rfl, S, hs, h1, h2⟩; have HB2 := Lib.hid (HB.out.last HR20.out (show Srt g cp w0 L0 (bs.flatten ++ S) _ from by simpa using hs) h1 h2); clear hs h1 h2)
          go_meet
          exact ⟨_, _, HB2.out⟩
      case rest => as_aux_lemma =>
        obtain ⟨bs', R', hb⟩ := hcut
        have HB1 := Lib.hid hb
        clear hb HB HRL HR20
        go_wp2_with fail
        go_loopg [6] n (fun gk x wr => ∃ (s : Nat) (bs : List (List Int)) (R : List Int), 20 ≤ s ∧ s ≤ 2000 ∧ n ≤ gk + s ∧ x = .int .i64 (s : Int) ∧ Hid (Blk1 g cp w0 kf L0 s bs R wr))
        case atStart => exact ⟨20, bs', R', by omega, by omega, by omega, rfl, HB1⟩
        case round => as_aux_lemma =>
          clear HB1
          obtain ⟨s, bs, R, hs20, hs2, hg, rfl, HB⟩ := hrel
          by_cases hsn : s < n
          · have hsn2 : (s : Int) < (n : Int) := by omega
            obtain ⟨s2, hs22⟩ : ∃ s2, 2 * s = s2 := ⟨_, rfl⟩
            have ws : (2 : Int) * (s : Int) = (s2 : Int) := by omega
            have ws' : (s : Int) * 2 = (s2 : Int) := by omega
            have ws2 : IntKind.i64.wrap (s2 : Int) = (s2 : Int) := IntWalk.i64_in _ (by omega)
            have HS0 := Lib.hid HB.out.start2
            obtain ⟨gq, rfl⟩ : ∃ q, q = gk := ⟨_, rfl⟩
            go_wp2_with fail
            go_loopg [7, 8] (n + 1) (fun gk x y wr => ∃ (a c : Nat) (ds bs : List (List Int)) (R : List Int), a + s2 = c ∧ a ≤ n ∧ n + 1 ≤ gk + a ∧ x = .int .i64 (a : Int) ∧ y = .int .i64 (c : Int) ∧ Hid (Blk2 g cp w0 kf L0 s a ds bs R wr))
            case atStart => exact ⟨0, s2, [], bs, R, by omega, by omega, by omega, rfl, rfl, HS0⟩
            case round => as_aux_lemma =>
              clear HS0 HB
              obtain ⟨a, c, ds, bs, R, hac, han, hg2, rfl, rfl, HB⟩ := hrel
              obtain ⟨m, hm⟩ : ∃ m, a + s = m := ⟨_, rfl⟩
              have wm : (a : Int) + (s : Int) = (m : Int) := by omega
              have wm2 : IntKind.i64.wrap (m : Int) = (m : Int) := IntWalk.i64_in _ (by omega)
              by_cases hcn : c ≤ n
              · have hcn2 : (c : Int) ≤ (n : Int) := by omega
                obtain ⟨b1, b2, rest, rfl⟩ := HB.out.two HN.out (by omega)
                have HL : Hid (b1.length + b2.length < 4000 ∧ a + b1.length = m ∧ m + b2.length = c ∧ 0 < b1.length ∧ 0 < b2.length) := Lib.hid (by
                  have l1 := (HB.out.each b1 (by simp)).1
                  have l2 := (HB.out.each b2 (by simp)).1
                  omega)
                have HSU : Hid (Srtd kf b1 ∧ Srtd kf b2 ∧ Less2 b1 b2) := Lib.hid ⟨(HB.out.each b1 (by simp)).2, (HB.out.each b2 (by simp)).2, less_mid (X := ds) (Y := rest ++ [R]) (by simpa using HB.out.less)⟩
                have HS1 : Hid (Srt g cp w0 L0 (ds.flatten ++ b1 ++ b2 ++ (rest.flatten ++ R)) wr) := Lib.hid (by simpa using HB.out.srt)
                have HNL : Hid ((ds.flatten ++ b1 ++ b2 ++ (rest.flatten ++ R)).length = n) := Lib.hid (HS1.out.len HN.out)
                obtain ⟨c2, hc2⟩ : ∃ c2, c + s2 = c2 := ⟨_, rfl⟩
                have wc : (c : Int) + (s2 : Int) = (c2 : Int) := by omega
                have wc2 : IntKind.i64.wrap (c2 : Int) = (c2 : Int) := IntWalk.i64_in _ (by omega)
                go_wp2_with (go_at_call 215; refine Calls.mono (HSY.out 4000 ds.flatten b1 b2 (rest.flatten ++ R) a m c _ HL.out.1 HS1.out HSU.out.1 HSU.out.2.1 HSU.out.2.2 HB.out.at' HL.out.2.1 HL.out.2.2.1 HNL.out HL.out.2.2.2.1 HL.out.2.2.2.2) ?_; rintro e w2 ⟨rfl, W, hs, h1⟩; have HB2 := Lib.hid (HB.out.step hs h1); clear hs h1)
                go_roundg (gk - 1)
                case measure => omega
                case rel => exact ⟨c, c2, _, _, _, hc2, by omega, by omega, rfl, rfl, by rw [hs22, hac] at HB2; exact HB2⟩
              · have hcn2 : ¬ (c : Int) ≤ (n : Int) := by omega
                have HON := Lib.hid (HB.out.one HN.out (by omega))
                have hnext : n ≤ (gq - 1) + s2 := by omega
                by_cases hmn : m < n
                · have hmn2 : (m : Int) < (n : Int) := by omega
                  obtain ⟨b, rfl, hnb⟩ : ∃ b, bs = [b] ∧ n = a + s + R.length := by
                    rcases HON.out with ⟨rfl, h2⟩ | h2
                    · have := HB.out.rest.1; omega
                    · exact h2
                  have HL : Hid (b.length + R.length < 4000 ∧ a + b.length = m ∧ m + R.length = n ∧ 0 < b.length ∧ 0 < R.length) := Lib.hid (by
                    have l1 := (HB.out.each b (by simp)).1
                    have l2 := HB.out.rest.1
                    omega)
                  have HSU : Hid (Srtd kf b ∧ Srtd kf R ∧ Less2 b R) := Lib.hid ⟨(HB.out.each b (by simp)).2, HB.out.rest.2, less_mid (X := ds) (Y := []) (by simpa using HB.out.less)⟩
                  have HS1 : Hid (Srt g cp w0 L0 (ds.flatten ++ b ++ R ++ []) wr) := Lib.hid (by simpa using HB.out.srt)
                  have HNL : Hid ((ds.flatten ++ b ++ R ++ []).length = n) := Lib.hid (HS1.out.len HN.out)
                  clear hnb
                  go_wp2_with (go_at_call 215; refine Calls.mono (HSY.out 4000 ds.flatten b R [] a m n _ HL.out.1 HS1.out HSU.out.1 HSU.out.2.1 HSU.out.2.2 HB.out.at' HL.out.2.1 HL.out.2.2.1 HNL.out HL.out.2.2.2.1 HL.out.2.2.2.2) ?_; rintro e w2 ⟨rfl, W, hs, h1⟩; have HB2 := Lib.hid (HB.out.out1 (show Srt g cp w0 L0 (ds.flatten ++ W) _ from by simpa using hs) h1); clear hs h1)
                  go_roundg (gq - 1)
                  case measure => omega
                  case rel => exact ⟨s2, _, _, by omega, by omega, hnext, rfl, by rw [hs22] at HB2; exact HB2⟩
                · have hmn2 : ¬ (m : Int) < (n : Int) := by omega
                  have HB2 : Hid (∃ ds' R', Blk1 g cp w0 kf L0 (2 * s) ds' R' wr) := Lib.hid (by
                    rcases HON.out with ⟨rfl, h2⟩ | ⟨b, rfl, h2⟩
                    · exact ⟨ds, R, HB.out.out0⟩
                    · have hR : R = [] := List.eq_nil_of_length_eq_zero (by omega)
                      subst hR
                      exact ⟨ds, b, HB.out.out1 (by simpa using HB.out.srt) (merged_nil_right (HB.out.each b (by simp)).2)⟩)
                  obtain ⟨ds', R', hb⟩ := HB2.out
                  have HB3 := Lib.hid hb
                  rw [hs22] at HB3
                  clear hb HB2
                  go_wp2_with fail
                  go_roundg (gq - 1)
                  case measure => omega
                  case rel => exact ⟨s2, ds', R', by omega, by omega, hnext, rfl, HB3⟩
          · have hsn2 : ¬ (s : Int) < (n : Int) := by omega
            have HF := Lib.hid (HB.out.fin HN.out (by omega))
            go_wp2_with fail
            go_end0
            exact ⟨rfl, _, HB.out.srt, HF.out⟩
set_option maxRecDepth 20000 in
set_option maxHeartbeats 1600000 in
theorem sortS_any (K : FuncId) (hE : Enters K) (cv : Value) (cz : Int → Int → Int) (kf : Int → Int) (g cp : Nat) (w0 : World) (L0 : List Int) (n : Nat) (w : World) (hC : CmpOk K cv cz g w0 L0) (hZ : CmpBy cz kf L0) (h : Srt g cp w0 L0 L0 w) (hA : Asc L0) (hn : L0.length = n) (h4 : n ≤ 900) :
    Calls Try.prog 123 #[.slice (some ⟨g, 0, none⟩) n cp, .func (.func K) #[] #[cv]] w fun e w' => e = .returned (.tuple #[]) ∧ ∃ L, Srt g cp w0 L0 L w' ∧ Srtd kf L := by
  have HC := Lib.hid hC
  have HZ := Lib.hid hZ
  have HE := Lib.hid hE
  have HS := Lib.hid h
  have HA := Lib.hid hA
  have HN := Lib.hid hn
  clear hC hZ h hA hn hE
  go_enter Try.func123, Try.ntmps123
  go_wp2_with (go_at_call 185; refine Calls.mono (stableC_any K HE.out cv cz kf g cp w0 L0 n _ HC.out HZ.out HS.out HA.out HN.out h4) ?_; rintro e w2 ⟨rfl, L, h1, h2⟩)
  go_end0
  exact ⟨rfl, L, h1, h2⟩
set_option maxRecDepth 20000 in
set_option maxHeartbeats 1600000 in
theorem sortS_nil (cf : Value) (w : World) :
    Calls Try.prog 123 #[.slice none 0 0, cf] w fun e w' => e = .returned (.tuple #[]) ∧ w' = w := by
  have HSC : ∀ w : World, Calls Try.prog 185 #[.slice none 0 0, .int .i64 0, cf] w fun e w' => e = .returned (.tuple #[]) ∧ w' = w := by
    intro w
    have h0 : ((0 : Nat) : Int) = 0 := rfl
    have hi := Lib.hid (fun w => ins_none cf (.slice none 0 0) 0 w (by omega))
    go_enter Try.func185, Try.ntmps185
    go_wp2_with fail
    go_loopg [7, 8] 1 (fun gk x y wr => x = .int .i64 0 ∧ y = .int .i64 20 ∧ wr = w)
    case atStart => exact ⟨rfl, rfl, rfl⟩
    case round =>
      obtain ⟨rfl, rfl, rfl⟩ := hrel
      go_wp2_with (go_at_call 214; refine Calls.mono (hi.out _) ?_; rintro e w2 ⟨rfl, rfl⟩)
      go_loopg [6] 1 (fun gk x wr => x = .int .i64 20 ∧ wr = w2)
      case atStart => exact ⟨rfl, rfl⟩
      case round =>
        obtain ⟨rfl, rfl⟩ := hrel
        go_wp2_with fail
        go_end0
        exact ⟨rfl, rfl⟩
  have H := Lib.hid HSC
  clear HSC
  go_enter Try.func123, Try.ntmps123
  go_wp2_with (go_at_call 185; refine Calls.mono (H.out _) ?_; rintro e w2 ⟨rfl, rfl⟩)
  go_end0
  exact ⟨rfl, rfl⟩
end Go.Proofs.Ytfjoakhcgpckgaa
