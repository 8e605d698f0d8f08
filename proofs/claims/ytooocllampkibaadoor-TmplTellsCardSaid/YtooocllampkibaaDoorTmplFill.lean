/- Contract: a script, filled; the program's. -/
import Derived.Test.YtooocllampkibaaDoorTmplWrite
namespace Go.Proofs.YtooocllampkibaaDoor
open Go.ChangeShapes Go.WideShapes Go.ChangeAt Go.RowKit
set_option linter.unusedVariables false
open Tp
namespace Tp
theorem gapsA_keeps (L : List Part) : ∀ (acc : List Bs) (t : Bs), t ∈ acc → t ∈ gapsA acc L := by
  induction L with
  | nil => intro acc t h; exact h
  | cons p L ih =>
    intro acc t h
    rw [gapsA]
    apply ih
    split
    · simp [h]
    · exact h
theorem gapsA_has (L : List Part) : ∀ (acc : List Bs) (p : Part), p ∈ L → p.gap = true → p.txt ∈ gapsA acc L := by
  induction L with
  | nil => intro acc p h; cases h
  | cons q L ih =>
    intro acc p h hg
    rw [gapsA]
    rcases List.mem_cons.1 h with rfl | h
    · apply gapsA_keeps
      by_cases hi : p.txt ∈ acc
      · rw [if_neg (fun hh => hh.2 hi)]; exact hi
      · rw [if_pos ⟨hg, hi⟩]; simp
    · exact ih _ p h hg
theorem fill_congr {f g : Bs → Bs} : ∀ {P : List Part}, (∀ p, p ∈ P → p.gap = true → f p.txt = g p.txt) → fill f P = fill g P
  | [], _ => rfl
  | p :: P, h => by
    rw [fill, fill, fill_congr (fun q hq => h q (by simp [hq]))]
    cases hp : p.gap with
    | false => rfl
    | true => simp [h p (by simp) hp]
theorem fill_eq {l : List Lab} {P : List Part} (h : ∀ g, g ∈ gapsA [] P → g ∈ keys l) : fill (lookD l) P = fill (lookT l) P :=
  fill_congr fun p hp hg => lookD_eq (h _ (gapsA_has P [] p hp hg))
theorem scrK_txt : ∀ (k : Nat) (s : Bs) (P : List Part), scrK k s = some P → ∀ p, p ∈ P → p.txt.length ≤ s.length
  | 0, s, P, h => by cases h
  | k + 1, [], P, h => by cases h; intro p hp; cases hp
  | k + 1, [c], P, h => by
    rw [scrK] at h
    split at h
    · obtain ⟨Q, hQ, rfl⟩ := Option.map_eq_some_iff.1 h
      intro p hp
      rcases List.mem_cons.1 hp with rfl | hp
      · simp
      · have := scrK_txt k [] Q hQ p hp
        simp at this ⊢; simp [this]
    · cases h
  | k + 1, c :: d :: s', P, h => by
    rw [scrK] at h
    split at h
    · obtain ⟨Q, hQ, rfl⟩ := Option.map_eq_some_iff.1 h
      intro p hp
      rcases List.mem_cons.1 hp with rfl | hp
      · simp
      · have := scrK_txt k _ Q hQ p hp
        simp at this ⊢; omega
    · rw [scrN] at h
      split at h
      · obtain ⟨Q, hQ, rfl⟩ := Option.map_eq_some_iff.1 h
        intro p hp
        rcases List.mem_cons.1 hp with rfl | hp
        · simp
        · have := scrK_txt k _ Q hQ p hp
          simp at this ⊢; omega
      · split at h
        · obtain ⟨Q, hQ, rfl⟩ := Option.map_eq_some_iff.1 h
          intro p hp
          rcases List.mem_cons.1 hp with rfl | hp
          · have := cutB_fst_len E (d :: s')
            simp only [List.length_drop, List.length_cons] at this ⊢; omega
          · have := scrK_txt k _ Q hQ p hp
            have h2 := cutB_len E (d :: s')
            simp at this h2 ⊢; omega
        · cases h
theorem gapsA_from (L : List Part) : ∀ (acc : List Bs) (t : Bs), t ∈ gapsA acc L → t ∈ acc ∨ ∃ p, p ∈ L ∧ p.txt = t := by
  induction L with
  | nil => intro acc t h; exact .inl h
  | cons p L ih =>
    intro acc t h
    rw [gapsA] at h
    rcases ih _ t h with h | ⟨q, hq, e⟩
    · split at h
      · rcases List.mem_append.1 h with h | h
        · exact .inl h
        · exact .inr ⟨p, by simp, (List.mem_singleton.1 h).symm⟩
      · exact .inl h
    · exact .inr ⟨q, by simp [hq], e⟩
theorem gaps_small {s : Bs} {P : List Part} (h : scr s = some P) {g : Bs} (hg : g ∈ gapsA [] P) : g.length ≤ s.length := by
  rcases gapsA_from P [] g hg with h1 | ⟨p, hp, rfl⟩
  · cases h1
  · exact scrK_txt _ _ _ h p hp
theorem fill_chars (f : Bs → Bs) (K : List Part) (t : Bs) : fill f (K ++ chars t) = fill f K ++ t := by
  rw [fill_append]
  have := fill_text f t
  rw [chars, this]
theorem fill_gap (f : Bs → Bs) (K : List Part) (t : Bs) : fill f (K ++ [⟨true, t⟩]) = fill f K ++ f t := by
  rw [fill_append]; simp [fill]
end Tp
/-- what parse leaves for Fill -/
def FilP (s : ByteArray) (b c8 gm q : Nat) (l : List Lab) (w0 : World) (m : Int) (w' : World) : Prop := ∃ K, FlI b c8 gm q l w0 m (fill (lookD l) K) w' ∧ ∀ P, scr (lst s) = some P → K = P
theorem parseF_any (s : ByteArray) (b c8 gm q : Nat) (l : List Lab) (w0 : World) (m : Int) (w : World) (hs : s.size ≤ 2001) (hS : LabSizes l) (hI : FlI b c8 gm q l w0 m [] w) : Calls Tryd.prog 12 #[.string s, .func (.func 17) #[] #[.pointer (some ⟨b, 0, none⟩)], .func (.func 20) #[] #[.pointer (some ⟨b + 1, 0, none⟩), .pointer (some ⟨c8, 0, none⟩)]] w fun e w' => e = .returned (.bool (scr (lst s)).isSome) ∧ FilP s b c8 gm q l w0 m w' := by
  refine parse_any 17 20 enters17 enters20 #[.pointer (some ⟨b, 0, none⟩)] #[.pointer (some ⟨b + 1, 0, none⟩), .pointer (some ⟨c8, 0, none⟩)] s m (fun K => FlI b c8 gm q l w0 m (fill (lookD l) K)) w hs ?_ ?_ (fun K w w' hI hb => hI.step hb) (fun K w hI => hI.max) hI
  · intro K f w hI hf _
    have := put_any b c8 gm q l w0 m _ f w hI (by omega)
    rw [← fill_chars] at this
    exact this
  · intro K f w hI hf hK
    have := gap_any b c8 gm q l w0 m _ f w hI hf hS
    rw [← fill_gap] at this
    exact this
theorem FlI.start {c8 gm q : Nat} {l : List Lab} {w0 w : World} {m : Int} (hc : w.cell? ⟨c8, 0, none⟩ = some (.map (some gm))) (hm : BoxL gm q l w) (hb : Below w0.heap.size w0 w) (h8 : c8 < w.heap.size) (hx : w.cell? ⟨0, 0, none⟩ = some (.int .i64 m)) :
    FlI w.heap.size c8 gm q l w0 m [] ((w.alloc (.cells #[.pointer none, .slice none 0 0] 48)).alloc (.cells #[.func (.func 17) #[] #[.pointer (some ⟨w.heap.size, 0, none⟩)]] 39)) := by
  have hB : Below w.heap.size w ((w.alloc (.cells #[.pointer none, .slice none 0 0] 48)).alloc (.cells #[.func (.func 17) #[] #[.pointer (some ⟨w.heap.size, 0, none⟩)]] 39)) := ((Below.refl _ _).alloc (Nat.le_refl _) _).alloc (by simp) _
  have hm' := hm.lt
  have h0 : 0 < w.heap.size := by omega
  refine ⟨⟨[], (Lib.IsBuilderF.of (Lib.fresh_isBuilder 48 5 w)).alloc _, PutI.nil, by simp⟩, ?_, (hB.cell (p := ⟨c8, 0, none⟩) h8).trans hc, hm.kept (hB.block _ hm'), ?_, hb.size, h8, hm', h0, (hB.cell (p := ⟨0, 0, none⟩) h0).trans hx⟩
  · have := heap_alloc_new (w.alloc (.cells #[.pointer none, .slice none 0 0] 48)) (.cells #[.func (.func 17) #[] #[.pointer (some ⟨w.heap.size, 0, none⟩)]] 39)
    simpa using this
  · have hsz := hb.size
    exact hb.trans (hB.mono hsz)
set_option maxRecDepth 20000 in
set_option maxHeartbeats 16000000 in
theorem Fill_any (s : ByteArray) (l : List Lab) (a : Option Addr) (n cap : Nat) (m : Int) (w : World) (hm : w.cell? ⟨0, 0, none⟩ = some (.int .i64 m)) (hsz : s.size ≤ 2001) (hn : n = l.length) (hnm : n ≤ 9223372036854775807) (hL : Labs w a l) (hS : LabSizes l) : Calls Tryd.prog 5 #[.string s, .slice a n cap] w fun e w' => e = .returned (.tuple #[.string (bts (filV (lst s) l).1), .int .i64 (filV (lst s) l).2]) ∧ Below w.heap.size w w' := by
  have HNM := Lib.hid (Names_any s m w hm hsz)
  have HM := Lib.hid hm
  have HN := Lib.hid hn
  have HL := Lib.hid hL
  have HS := Lib.hid hS
  have hw0 : 0 < w.heap.size := by
    rcases Nat.eq_zero_or_pos w.heap.size with h | h
    · have : w.heap[0]? = none := Array.getElem?_eq_none (by omega)
      unfold World.cell? at hm
      rw [this] at hm; cases hm
    · exact h
  clear hm hn hL hS
  by_cases h2000 : 2000 < s.size
  · have HV := Lib.hid (filV_long (s := lst s) (l := l) (by rw [lst_len]; exact h2000))
    have HC : Hid (Calls Tryd.prog 4 #[.string s] w fun e w' => e = .returned (.tuple #[.slice none 0 0, .int .i64 2]) ∧ Below w.heap.size w w') := Lib.hid (HNM.out.mono (by
      rintro e w' ⟨⟨_, h⟩ | ⟨h, _⟩ | ⟨h, _⟩, hb⟩
      · exact ⟨h, hb⟩
      · omega
      · omega))
    clear HNM
    go_enter Tryd.func5, Tryd.ntmps5
    go_wp2_with fail
    refine Calls.mono HC.out ?_
    rintro e' w' ⟨rfl, hb⟩
    have HB := Lib.hid hb
    clear hb
    go_wp2_with fail
    go_ret2
    exact ⟨ret_si' HV.out, HB.out⟩
  have HLE : Hid (¬ 2000 < (lst s).length) := Lib.hid (by rw [lst_len]; exact h2000)
  cases hscr : scr (lst s) with
  | none =>
    have HV := Lib.hid (filV_form (l := l) HLE.out hscr)
    have HC : Hid (Calls Tryd.prog 4 #[.string s] w fun e w' => e = .returned (.tuple #[.slice none 0 0, .int .i64 3]) ∧ Below w.heap.size w w') := Lib.hid (HNM.out.mono (by
      rintro e w' ⟨⟨h, _⟩ | ⟨_, _, h⟩ | ⟨_, P, _, _, _, h, _⟩, hb⟩
      · omega
      · exact ⟨h, hb⟩
      · rw [hscr] at h; cases h))
    clear HNM hscr
    go_enter Tryd.func5, Tryd.ntmps5
    go_wp2_with fail
    refine Calls.mono HC.out ?_
    rintro e' w' ⟨rfl, hb⟩
    have HB := Lib.hid hb
    clear hb
    go_wp2_with fail
    go_ret2
    exact ⟨ret_si' HV.out, HB.out⟩
  | some P =>
    have HSC := Lib.hid hscr
    have HC : Hid (Calls Tryd.prog 4 #[.string s] w fun e w' => ∃ a k cap, e = .returned (.tuple #[.slice a k cap, .int .i64 0]) ∧ k = (gapsA [] P).length ∧ k ≤ 2001 ∧ Vals w' a (txv (gapsA [] P)) ∧ Below w.heap.size w w') := Lib.hid (HNM.out.mono (by
      rintro e w' ⟨⟨h, _⟩ | ⟨_, h, _⟩ | ⟨_, P', a, k, cap, h, h1, h2, h3, h4⟩, hb⟩
      · omega
      · rw [hscr] at h; cases h
      · rw [hscr] at h; cases h
        exact ⟨a, k, cap, h1, h2, h3, h4, hb⟩))
    clear hscr HNM
    by_cases h8 : 8 < n
    · have HV := Lib.hid (filV_many (l := l) HLE.out HSC.out (by have := HN.out; omega))
      have h8b : (n : Int) > 8 := by omega
      go_enter Tryd.func5, Tryd.ntmps5
      go_wp2_with fail
      refine Calls.mono HC.out ?_
      rintro e' w' ⟨ga, k, gc, rfl, hk, hkm, hga, hb⟩
      have HB := Lib.hid hb
      clear hb hk hga
      go_wp2_with fail
      go_ret2
      exact ⟨ret_si' HV.out, HB.out⟩
    have h8b : ¬ (n : Int) > 8 := by omega
    have HL8 : Hid (¬ 8 < l.length) := Lib.hid (by have := HN.out; omega)
    go_enter Tryd.func5, Tryd.ntmps5
    go_wp2_with fail
    refine Calls.mono HC.out ?_
    rintro e' W1 ⟨ga, k, gc, rfl, hk, hkm, hga, hb⟩
    have HB1 := Lib.hid hb
    have HK := Lib.hid hk
    have HGA := Lib.hid hga
    clear hb hk hga
    have hmm := @run_makeMap Tryd.prog
    obtain ⟨gm, hgm⟩ : ∃ g, g = W1.heap.size := ⟨_, rfl⟩
    have HGM := Lib.hid hgm
    clear hgm
    go_wp2_with fail
    rw [← HGM.out]
    go_loopg [35] n (fun g x wr => ∃ j : Nat, j + g = n ∧ x = .int .i64 (j : Int) ∧ Hid (LbS l j) ∧ Hid (BoxL gm j (l.take j) wr) ∧ Hid (wr.cell? ⟨gm + 1, 0, none⟩ = some (.map (some gm))) ∧ gm + 1 < wr.heap.size ∧ Hid (Below W1.heap.size W1 wr))
    case atStart =>
      have e := HGM.out
      subst e
      refine ⟨0, by omega, rfl, Lib.hid (LbS.zero l), Lib.hid ?_, Lib.hid ?_, ?_, Lib.hid ?_⟩
      · exact (BoxL.made W1).kept (Below.heap_alloc (W1.alloc (.map #[] 0)) _ _ (by simp))
      · simp
      · simp
      · exact ((Below.refl _ _).alloc (Nat.le_refl _) _).alloc (by simp) _
    case round =>
      obtain ⟨j, hj, rfl, HI, HBX, HC8, hc8, HB⟩ := hrel
      have HWB : Hid (Below w.heap.size w wr) := Lib.hid (HB1.out.trans (HB.out.mono HB1.out.size))
      have hgm1 : W1.heap.size = gm := HGM.out.symm
      by_cases hjn : j < n
      · obtain ⟨x, hx⟩ : ∃ x, l[j]? = some x := ⟨_, List.getElem?_eq_getElem (by rw [← HN.out]; exact hjn)⟩
        obtain ⟨b, off, rfl, hb, hat⟩ := HL.out (by have := HN.out; omega)
        obtain ⟨q0, q1⟩ := (hat.below HWB.out hb) j x hx
        have hbr : b < wr.heap.size := Nat.lt_of_lt_of_le hb HWB.out.size
        have hj1 : (0 : Int) ≤ (j : Int) := by omega
        have hj2 : (j : Int) < (n : Int) := by omega
        have HX := Lib.hid hx
        have hs1 := (HS.out x (List.mem_of_getElem? hx)).1
        have hs2 := (HS.out x (List.mem_of_getElem? hx)).2
        have HLG := Lib.hid (fun w2 => Label_any (bts x.1) w2 (by rw [bts_size]; omega))
        rw [show lst (bts x.1) = x.1 from rfl] at HLG
        obtain ⟨xk, hxk⟩ : ∃ k, bts x.1 = k := ⟨_, rfl⟩
        obtain ⟨xv, hxv⟩ : ∃ v, bts x.2 = v := ⟨_, rfl⟩
        have HXK := Lib.hid hxk
        have HXV := Lib.hid hxv
        rw [hxk] at q0 HLG
        rw [hxv] at q1
        clear hat hx hxk hxv
        obtain ⟨wx, hwx⟩ : ∃ wx, wx = wr.alloc (.cells #[.string xk, .string xv] 43) := ⟨_, rfl⟩
        have hb9 : Below wr.heap.size wr wx := by rw [hwx]; exact (Below.refl _ _).alloc (Nat.le_refl _) _
        have HBXW := Lib.hid (HBX.out.kept (hb9.block gm (by omega)))
        have HBW : Hid (Below W1.heap.size W1 wx) := Lib.hid (HB.out.trans (hb9.mono HB.out.size))
        have hq8 : wx.cell? ⟨gm + 1, 0, none⟩ = some (.map (some gm)) := (hb9.cell (p := ⟨gm + 1, 0, none⟩) hc8).trans HC8.out
        have hlen := hb9.size
        obtain ⟨cx, hcx⟩ : ∃ c, c = wr.heap.size := ⟨_, rfl⟩
        have hcx2 : cx < wx.heap.size := by rw [hcx, hwx]; simp
        have d0 : wx.cell? ⟨cx, 0, none⟩ = some (.string xk) := by rw [hcx, hwx]; simp
        have d1 : wx.cell? ⟨cx, 1, none⟩ = some (.string xv) := by rw [hcx, hwx]; simp
        have hrun := HBXW.out.look (k := x.1) (by unfold maxLen; omega)
        rw [HXK.out] at hrun
        obtain ⟨ov, hov⟩ : ∃ v, bts (lookD (l.take j) x.1) = v := ⟨_, rfl⟩
        obtain ⟨is, his⟩ : ∃ b, decide (x.1 ∈ keys (l.take j)) = b := ⟨_, rfl⟩
        have HIS := Lib.hid his
        rw [hov, his] at hrun
        clear hb9 hov his
        go_upto_region 10 with fail
        rw [← hwx, ← hcx]
        clear hwx hcx
        cases hl : lab x.1 with
        | false =>
          rw [hl] at HLG
          have HV := Lib.hid (filV_labs (l := l) HLE.out HSC.out HL8.out (HI.out.form HX.out hl))
          clear hl
          go_wp2_with fail
          refine Calls.mono (HLG.out _) ?_
          rintro e' W3 ⟨rfl, h1⟩
          have HW3 := Lib.hid (HB1.out.trans ((HBW.out.trans (h1.mono HBW.out.size)).mono HB1.out.size))
          clear h1
          go_wp2_with fail
          go_ret2
          exact ⟨ret_si' HV.out, HW3.out⟩
        | true =>
          rw [hl] at HLG
          have HLT := Lib.hid hl
          clear hl
          cases is with
          | true =>
            have HV := Lib.hid (filV_labs (l := l) HLE.out HSC.out HL8.out (HI.out.dup HX.out HLT.out (by simpa using HIS.out)))
            go_wp2_with fail
            refine Calls.mono (HLG.out _) ?_
            rintro e' W3 ⟨rfl, h1⟩
            have HW3 := Lib.hid (HB1.out.trans ((HBW.out.trans (h1.mono HBW.out.size)).mono HB1.out.size))
            clear h1
            go_wp2_with fail
            go_ret2
            exact ⟨ret_si' HV.out, HW3.out⟩
          | false =>
            have HQ := Lib.hid (HI.out.succ HX.out HLT.out (by simpa using HIS.out))
            go_wp2_with fail
            refine Calls.mono (HLG.out _) ?_
            rintro e' W3 ⟨rfl, h1⟩
            have HW3 : Hid (Below W1.heap.size W1 W3) := Lib.hid (HBW.out.trans (h1.mono HBW.out.size))
            have e8 : W3.cell? ⟨gm + 1, 0, none⟩ = some (.map (some gm)) := (h1.cell (p := ⟨gm + 1, 0, none⟩) (by show gm + 1 < wx.heap.size; omega)).trans hq8
            have e0 : W3.cell? ⟨cx, 0, none⟩ = some (.string xk) := (h1.cell (p := ⟨cx, 0, none⟩) hcx2).trans d0
            have e1 : W3.cell? ⟨cx, 1, none⟩ = some (.string xv) := (h1.cell (p := ⟨cx, 1, none⟩) hcx2).trans d1
            have HB3 := Lib.hid (HBXW.out.kept (h1.block gm (by omega)))
            have hs3 : gm + 1 < W3.heap.size := by have := h1.size; omega
            obtain ⟨W5, hup, hB5, hg5⟩ := HB3.out.upd (by unfold maxLen; omega) HX.out (by unfold maxLen; omega) (by unfold maxLen; omega)
            rw [HXK.out, HXV.out] at hup
            have HB5 := Lib.hid hB5
            have HC5 : Hid (W5.cell? ⟨gm + 1, 0, none⟩ = some (.map (some gm))) := Lib.hid ((cell_of_block (p := ⟨gm + 1, 0, none⟩) (hg5.block (gm + 1) hs3 (by simp))).trans e8)
            have hs5 : gm + 1 < W5.heap.size := by have := hg5.size; omega
            have HW5 : Hid (Below W1.heap.size W1 W5) := Lib.hid (HW3.out.grown hg5 (by omega) (by intro k hk; cases hk; omega))
            clear h1 hrun hq8 d0 d1 hB5 hg5
            go_wp2_with fail
            go_roundg (n - (j + 1))
            case measure => omega
            case rel => exact ⟨j + 1, by omega, by simp, HQ, HB5, HC5, hs5, HW5⟩
      · obtain rfl : j = n := by omega
        have HLN := Lib.hid (HI.out.fin (by rw [← HN.out]; exact Nat.le_refl _))
        have HTK : Hid (l.take j = l) := Lib.hid (by rw [HN.out, List.take_length])
        rw [HTK.out] at HBX
        clear HI HTK
        obtain ⟨G, hG⟩ : ∃ G, gapsA [] P = G := ⟨_, rfl⟩
        have HGG := Lib.hid hG
        rw [hG] at HK HGA
        clear hG
        obtain ⟨W4, hW4⟩ : ∃ W, W = wr := ⟨_, rfl⟩
        rw [← hW4] at HBX HC8 hc8 HB HWB ⊢
        clear hW4
        have hc8' := HC8.out
        go_wp2_with fail
        go_loopg [61] k (fun g x wr => ∃ i : Nat, i + g = k ∧ x = .int .i64 (i : Int) ∧ Hid (AllIn l G i) ∧ Hid (wr = W4))
        case atStart => exact ⟨0, by omega, rfl, Lib.hid (AllIn.zero l G), Lib.hid rfl⟩
        case round =>
          obtain ⟨i, hi, rfl, HA, HW⟩ := hrel
          obtain rfl := HW.out
          by_cases him : i < k
          · obtain ⟨g, hg⟩ : ∃ g, G[i]? = some g := ⟨_, List.getElem?_eq_getElem (by rw [← HK.out]; exact him)⟩
            obtain ⟨b, off, rfl, hb, hat⟩ := HGA.out (by rw [txv_length, ← HK.out]; omega)
            have q0 : wr.cell? ⟨b, off + i, none⟩ = some (.string (bts g)) := (HB.out.cell (p := ⟨b, _, none⟩) hb).trans (hat i _ (txv_at hg))
            have hbr : b < wr.heap.size := Nat.lt_of_lt_of_le hb HB.out.size
            have hi1 : (0 : Int) ≤ (i : Int) := by omega
            have hi2 : (i : Int) < (k : Int) := by omega
            have HG := Lib.hid hg
            have hgs : g.length ≤ 2001 := by
              have h1 := gaps_small HSC.out (g := g) (by rw [HGG.out]; exact List.mem_of_getElem? hg)
              rw [lst_len] at h1
              omega
            have hrun := HBX.out.look (k := g) (by unfold maxLen; omega)
            obtain ⟨gk', hgk⟩ : ∃ k, bts g = k := ⟨_, rfl⟩
            obtain ⟨gv', hgv⟩ : ∃ k, bts (lookD l g) = k := ⟨_, rfl⟩
            rw [hgk] at q0
            rw [hgk, hgv] at hrun
            clear hat hg hgk hgv
            cases hf : decide (g ∈ keys l) with
            | true =>
              rw [hf] at hrun
              have HQ := Lib.hid (HA.out.succ HG.out (by simpa using hf))
              clear hf
              go_wp2_with fail
              go_roundg (k - (i + 1))
              case measure => omega
              case rel => exact ⟨i + 1, by omega, by simp, HQ, Lib.hid rfl⟩
            | false =>
              rw [hf] at hrun
              have HV := Lib.hid (filV_gap (l := l) HLE.out HSC.out HL8.out HLN.out (g := g) (by rw [HGG.out]; exact List.mem_of_getElem? HG.out) (by simpa using hf))
              clear hf
              go_wp2_with fail
              go_ret2
              exact ⟨ret_si' HV.out, HWB.out⟩
          · obtain rfl : i = k := by omega
            have HAL : Hid (∀ g, g ∈ gapsA [] P → g ∈ keys l) := Lib.hid (by rw [HGG.out]; rw [HK.out] at HA; exact HA.out.fin)
            have HF := Lib.hid (FlI.start (w0 := w) HC8.out HBX.out HWB.out (by exact hc8) ((HWB.out.cell (p := ⟨0, 0, none⟩) hw0).trans HM.out))
            have HCP := Lib.hid (parseF_any s wr.heap.size (gm + 1) gm j l w m _ hsz HS.out HF.out)
            obtain ⟨b, hbb⟩ : ∃ b, b = wr.heap.size := ⟨_, rfl⟩
            have hwb : w.heap.size ≤ b := by have := HWB.out.size; omega
            rw [← hbb] at HCP HF
            clear HA
            go_wp2_with fail
            rw [← hbb]
            clear hbb
            refine Calls.mono HCP.out ?_
            rintro e' W6 ⟨rfl, K, hFl, hK⟩
            obtain rfl : K = P := hK P HSC.out
            obtain ⟨acc, h1, h2, h3⟩ := hFl.bld
            obtain ⟨q, hq⟩ : ∃ q, acc.length = q := ⟨_, rfl⟩
            have HQ := Lib.hid hq
            have HLEN := Lib.hid (Tryd.Builder_Len_f b b (Lib.byteCells acc) W6 h1)
            rw [Lib.byteCells_length, hq] at HLEN
            have HSTR := Lib.hid (Tryd.Builder_String_any_k b b acc W6 h1 (by have := IsBuilderF.lt h1; omega))
            rw [show (⟨acc.toArray⟩ : ByteArray) = bts acc from rfl] at HSTR
            have H2 := Lib.hid h2
            have HB6 := Lib.hid hFl.below
            have HEQ := Lib.hid (fill_eq HAL.out)
            have hsome : (scr (lst s)).isSome = true := by rw [HSC.out]; rfl
            rw [hsome]
            clear h1 h2 hq hK hFl hsome
            by_cases hbig : 2000 < q
            · have HV := Lib.hid (filV_large (l := l) HLE.out HSC.out HL8.out HLN.out HAL.out (by rw [← HEQ.out]; exact H2.out.large.1 (by rw [HQ.out]; exact hbig)))
              have hb2 : (q : Int) > 2000 := by omega
              go_wp2_with fail
              refine Calls.mono HLEN.out ?_
              rintro e' W7 ⟨rfl, rfl⟩
              go_wp2_with fail
              go_ret2
              exact ⟨ret_si' HV.out, HB6.out⟩
            · have hb2 : ¬ (q : Int) > 2000 := by omega
              have hle : ¬ 2000 < (fill (lookD l) K).length := fun h => hbig (by rw [← HQ.out]; exact H2.out.large.2 h)
              have HA : Hid (acc = fill (lookT l) K) := Lib.hid (by rw [← HEQ.out]; exact H2.out.1 (by omega))
              have HV := Lib.hid (filV_done (l := l) HLE.out HSC.out HL8.out HLN.out HAL.out (by rw [← HEQ.out]; omega))
              rw [← HA.out] at HV
              go_wp2_with fail
              refine Calls.mono HLEN.out ?_
              rintro e' W7 ⟨rfl, rfl⟩
              go_wp2_with fail
              refine Calls.mono HSTR.out ?_
              rintro e' W8 ⟨rfl, _, hb8, _⟩
              have HB8 := Lib.hid (HB6.out.trans (hb8.mono hwb))
              clear hb8
              go_wp2_with fail
              go_ret2
              exact ⟨ret_si' (by rw [lst_bts]; exact HV.out), HB8.out⟩
end Go.Proofs.YtooocllampkibaaDoor
