/- Contract: the names of a script's gaps. -/
import Derived.Test.YtooocllampkibaaDoorTmplParse
import Derived.Test.YtooocllampkibaaDoorTmplFilM
import Derived.Deep.CutBlock
import Derived.Deep.DeepCutAuto
import Derived.RegionTactic
namespace Go.Proofs.YtooocllampkibaaDoor
open Go.ChangeShapes Go.WideShapes Go.ChangeAt Go.RowKit
set_option linter.unusedVariables false
open Tp
/-- what Names has found, in a cell of its own -/
structure NmI (h : Nat) (w0 : World) (m : Int) (K : List Part) (w : World) : Prop where
  cell : ∃ u, w.cell? ⟨h, 0, none⟩ = some u ∧ w.ownsRow (h + 1) 9 1 u (gapsA [] K).length (txv (gapsA [] K))
  froz : w.frozen? ⟨h, 0, none⟩ = false
  below : Below h w0 w
  lt : h < w.heap.size
  max : w.cell? ⟨0, 0, none⟩ = some (.int .i64 m)
  pos : 0 < h
theorem NmI.step {h : Nat} {w0 w w' : World} {m : Int} {K : List Part} (hI : NmI h w0 m K w) (hb : Below w.heap.size w w') : NmI h w0 m K w' := by
  obtain ⟨u, hu, ho⟩ := hI.cell
  refine ⟨⟨u, (hb.cell (p := ⟨h, 0, none⟩) hI.lt).trans hu, ownsRow_below ho hb⟩, ?_, hI.below.trans (hb.mono (by have := hI.lt; omega)), Nat.lt_of_lt_of_le hI.lt hb.size, (hb.cell (p := ⟨0, 0, none⟩) (show 0 < w.heap.size by have := hI.lt; omega)).trans hI.max, hI.pos⟩
  rw [hb.frozen (p := ⟨h, 0, none⟩) hI.lt]; exact hI.froz
theorem containsK (K : List Bs) (m : Nat) (t : ByteArray) (a : Option Addr) (cap : Nat) (w : World) (hm : m = K.length) (hv : Vals w a (txv K)) (hs : m ≤ 9223372036854775807) : Calls Tryd.prog 15 #[.slice a m cap, .string t] w fun e w' => e = .returned (.bool (decide (lst t ∈ K))) ∧ w' = w := by
  by_cases h0 : K = []
  · subst h0
    obtain rfl : m = 0 := hm
    have h := Tryd.slices_Contains_string_empty a cap t w
    simpa using h
  · have hp : 0 < K.length := List.length_pos_iff.2 h0
    obtain ⟨b, off, rfl, hb, hc⟩ := hv (by rw [txv_length]; exact hp)
    have h := Tryd.slices_Contains_string b off m cap (K.map bts) t w (by rw [List.length_map]; omega) hs (fun j hj => by
      rw [List.length_map] at hj
      rw [hc j _ (txv_at (List.getElem?_eq_getElem hj))]
      simp [List.getD, hj])
    rw [List.take_of_length_le (by rw [List.length_map]; omega)] at h
    have e : Lib.containsS (K.map bts) t = decide (lst t ∈ K) := by
      rw [Bool.eq_iff_iff, Lib.containsS_iff, decide_eq_true_iff, List.mem_map]
      constructor
      · rintro ⟨x, hx, rfl⟩; exact hx
      · intro hx; exact ⟨_, hx, bts_lst t⟩
    rw [e] at h
    exact h
theorem cell_of_block {w w' : World} {p : Addr} (h : w'.heap[p.block]? = w.heap[p.block]?) : w'.cell? p = w.cell? p := by
  unfold World.cell?
  rw [h]
theorem gapsA_append (acc : List Bs) (a b : List Part) : gapsA acc (a ++ b) = gapsA (gapsA acc a) b := by
  induction a generalizing acc with
  | nil => rfl
  | cons q a ih => exact ih _
theorem gapsA_chars (K : List Part) (f : Bs) : gapsA [] (K ++ chars f) = gapsA [] K := by
  rw [gapsA_append]
  have := gapsA_text (gapsA [] K) f []
  rw [List.append_nil] at this
  exact this
theorem gapsA_len (L : List Part) : (gapsA [] L).length ≤ L.length := by
  have := gapsA_length L L.length
  rwa [List.take_length] at this
theorem NmI.pushed {h : Nat} {w0 w w5 : World} {m : Int} {K : List Part} {G : List Bs} {f : Bs} {t : ByteArray} {n gg cap3 : Nat} {v : Value} {u : Value} (hI : NmI h w0 m K w) (hR : gapsA [] (K ++ [⟨true, f⟩]) = G ++ [f]) (hn : n = G.length) (ht : bts f = t) (hB : w0.heap.size ≤ h) (ho : w5.ownsRow (h + 1) 9 1 (.slice (some ⟨gg, 0, none⟩) (n + 1) cap3) (n + 1) (txv G ++ [.string t])) (hg : w.grownBy w5 v.ownBlock) (hv : ∀ k, v.ownBlock = some k → h + 1 ≤ k) (hu : w5.cell? ⟨h, 0, none⟩ = some u) (hf : w5.frozen? ⟨h, 0, none⟩ = false) : NmI h w0 m (K ++ [⟨true, f⟩]) (w5.setCell ⟨h, 0, none⟩ (.slice (some ⟨gg, 0, none⟩) (n + 1) cap3)) := by
  have hlt := hI.lt
  have hb1 : Below h w0 w5 := hI.below.grown hg (by omega) (fun k hk => by have := hv k hk; omega)
  have h05 : w5.heap.size ≥ w.heap.size := hg.size
  refine ⟨⟨.slice (some ⟨gg, 0, none⟩) (n + 1) cap3, ?_, ?_⟩, ?_, ?_, ?_, ?_, ?_⟩
  · exact World.cell?_setCell_same _ _ _ hu
  · rw [hR, List.length_append, ← hn, txv_push, ht]
    exact ownsRow_setCell_below ho (a := ⟨h, 0, none⟩) (by show h < h + 1; omega) _
  · rw [World.frozen?_setCell]; exact hf
  · exact hb1.setCell (p := ⟨h, 0, none⟩) (Nat.le_refl _) _
  · simp; omega
  · have h0 : ¬ h = 0 := by have := hI.pos; omega
    have e : w5.heap[0]? = w.heap[0]? := hg.block 0 (by omega) (fun e => by have := hv 0 e.symm; omega)
    rw [World.cell?_setCell_other _ _ _ _ (by simp)]
    exact (cell_of_block (p := ⟨0, 0, none⟩) e).trans hI.max
  · exact hI.pos
theorem n1_any (K : List Part) (h : Nat) (w0 : World) (m : Int) (f : Bs) (w : World) (hI : NmI h w0 m K w) : Calls Tryd.prog 13 #[.string (bts f)] w fun e w' => e = .returned (.tuple #[]) ∧ NmI h w0 m (K ++ chars f) w' := by
  have HI : Hid (NmI h w0 m (K ++ chars f) w) := Lib.hid (by
    obtain ⟨h1, h2, h3, h4, h5, h6⟩ := hI
    exact ⟨by rw [gapsA_chars]; exact h1, h2, h3, h4, h5, h6⟩)
  clear hI
  go_enter Tryd.func13, Tryd.ntmps13
  go_wp2_with fail
  go_end0
  exact ⟨rfl, HI.out⟩
set_option maxRecDepth 20000 in
set_option maxHeartbeats 4000000 in
theorem n2_any (K : List Part) (h : Nat) (w0 : World) (m : Int) (f : Bs) (w : World) (hI : NmI h w0 m K w) (hB : w0.heap.size ≤ h) (hK : K.length ≤ 2001) : Calls Tryd.prog 14 #[.string (bts f), .pointer (some ⟨h, 0, none⟩)] w fun e w' => e = .returned (.tuple #[]) ∧ NmI h w0 m (K ++ [⟨true, f⟩]) w' := by
  have HI := Lib.hid hI
  have HSN := Lib.hid (gapsA_snoc [] K ⟨true, f⟩)
  have hgl := gapsA_len K
  obtain ⟨u, hu, ho⟩ := hI.cell
  have hlt := hI.lt
  have hfr := hI.froz
  obtain ⟨G, hG⟩ : ∃ G, gapsA [] K = G := ⟨_, rfl⟩
  have HG := Lib.hid hG
  rw [hG] at HSN ho hgl
  obtain ⟨n, hn⟩ : ∃ n, n = G.length := ⟨_, rfl⟩
  have HN := Lib.hid hn
  rw [← hn] at ho hgl
  obtain ⟨ga, gc, he, hgc1, hgc2, hgf⟩ := ownForm ho
  subst he
  have HO := Lib.hid ho
  have HV : Hid (Vals w ga (txv G)) := Lib.hid (by
    obtain ⟨a', c', hu2, hv⟩ := IsRow.own (by decide) ho
    cases hu2; exact hv)
  have HC := Lib.hid (containsK G n (bts f) ga gc w hn HV.out (by omega))
  rw [lst_bts] at HC
  obtain ⟨t, ht⟩ : ∃ t, bts f = t := ⟨_, rfl⟩
  have HT := Lib.hid ht
  rw [ht] at HC ⊢
  clear hI hG hn ho ht
  by_cases hin : f ∈ G
  · rw [show decide (f ∈ G) = true from by simpa using hin] at HC
    have HR : Hid (NmI h w0 m (K ++ [⟨true, f⟩]) w) := Lib.hid (by
      obtain ⟨h1, h2, h3, h4, h5, h6⟩ := HI.out
      exact ⟨by rw [HSN.out, if_neg (fun hh => hh.2 hin), ← HG.out]; exact h1, h2, h3, h4, h5, h6⟩)
    clear hin
    go_enter Tryd.func14, Tryd.ntmps14
    go_wp2_with fail
    refine Calls.mono HC.out ?_
    rintro e' w' ⟨rfl, rfl⟩
    go_wp2_with fail
    go_end0
    exact ⟨rfl, HR.out⟩
  · rw [show decide (f ∈ G) = false from by simpa using hin] at HC
    have HR : Hid (gapsA [] (K ++ [⟨true, f⟩]) = G ++ [f]) := Lib.hid (by rw [HSN.out, if_pos ⟨rfl, hin⟩])
    have hbs : h + 1 ≤ w.heap.size := hlt
    clear hin
    go_enter Tryd.func14, Tryd.ntmps14
    go_wp2_with fail
    refine Calls.mono HC.out ?_
    rintro e' w' ⟨rfl, rfl⟩
    go_wp2_with (at_builtin; go_loud (refine wpList_push _ (by rfl) _ _ 23 (by rfl) (h + 1) 9 (.string ⟨#[]⟩) 16 Tryd.underlying23 infoStr (by rfl) (.slice ga n gc) n (txv G) (.string t) _ rfl (by rfl) HO.out (by rfl) (by rfl) (by unfold maxLen; omega) (by omega) hbs ?_; intro gg cap3 w5 hown hgrow hgb hgl2; have hb5 := hgrow.block h hlt (fun e => by have := (HO.out.lt h e.symm).1; omega); have hu5 : w5.cell? ⟨h, 0, none⟩ = some (.slice ga n gc) := (cell_of_block (p := ⟨h, 0, none⟩) hb5).trans hu; have hf5 : w5.frozen? ⟨h, 0, none⟩ = false := (World.frozen?_of_block hb5).trans hfr; have HW5 : Hid (NmI h w0 m (K ++ [⟨true, f⟩]) (w5.setCell ⟨h, 0, none⟩ (.slice (some ⟨gg, 0, none⟩) (n + 1) cap3))) := Lib.hid (HI.out.pushed HR.out HN.out HT.out hB hown hgrow (by intro k hk; exact (HO.out.lt k hk).1) hu5 hf5); clear hown hgrow hgb hb5))
    go_end0
    exact ⟨rfl, HW5.out⟩
theorem scrK_len : ∀ (k : Nat) (s : Bs) (P : List Part), scrK k s = some P → P.length ≤ s.length
  | 0, s, P, h => by cases h
  | k + 1, [], P, h => by cases h; simp
  | k + 1, [c], P, h => by
    rw [scrK] at h
    split at h
    · obtain ⟨Q, hQ, rfl⟩ := Option.map_eq_some_iff.1 h
      have := scrK_len k [] Q hQ
      simp at this ⊢; omega
    · cases h
  | k + 1, c :: d :: s', P, h => by
    rw [scrK] at h
    split at h
    · obtain ⟨Q, hQ, rfl⟩ := Option.map_eq_some_iff.1 h
      have := scrK_len k _ Q hQ
      simp at this ⊢; omega
    · rw [scrN] at h
      split at h
      · obtain ⟨Q, hQ, rfl⟩ := Option.map_eq_some_iff.1 h
        have := scrK_len k _ Q hQ
        simp at this ⊢; omega
      · split at h
        · obtain ⟨Q, hQ, rfl⟩ := Option.map_eq_some_iff.1 h
          have := scrK_len k _ Q hQ
          have h2 := cutB_len E (d :: s')
          simp at this h2 ⊢; omega
        · cases h
theorem scr_len {s : Bs} {P : List Part} (h : scr s = some P) : P.length ≤ s.length := scrK_len _ _ _ h
theorem enters13 : Enters 13 := fun args w => by kernel_rfl
theorem enters14 : Enters 14 := fun args w => by kernel_rfl
def NamQ (s : ByteArray) (B : Nat) (w : World) (e : Ending) (w' : World) : Prop :=
  ((2000 < s.size ∧ e = .returned (.tuple #[.slice none 0 0, .int .i64 2])) ∨ (s.size ≤ 2000 ∧ scr (lst s) = none ∧ e = .returned (.tuple #[.slice none 0 0, .int .i64 3])) ∨
    (s.size ≤ 2000 ∧ ∃ P a n cap, scr (lst s) = some P ∧ e = .returned (.tuple #[.slice a n cap, .int .i64 0]) ∧ n = (gapsA [] P).length ∧ n ≤ 2001 ∧ Vals w' a (txv (gapsA [] P)))) ∧ Below B w w'
/-- what parse leaves for Names -/
def NamP (s : ByteArray) (h : Nat) (w0 : World) (m : Int) (w' : World) : Prop := ∃ K, NmI h w0 m K w' ∧ ∀ P, scr (lst s) = some P → K = P
theorem parseN_any (s : ByteArray) (h : Nat) (w0 : World) (m : Int) (w : World) (hs : s.size ≤ 2001) (hB : w0.heap.size ≤ h) (hI : NmI h w0 m [] w) : Calls Tryd.prog 12 #[.string s, .func (.func 13) #[] #[], .func (.func 14) #[] #[.pointer (some ⟨h, 0, none⟩)]] w fun e w' => e = .returned (.bool (scr (lst s)).isSome) ∧ NamP s h w0 m w' := by
  refine parse_any 13 14 enters13 enters14 #[] #[.pointer (some ⟨h, 0, none⟩)] s m (NmI h w0 m) w hs ?_ ?_ (fun K w w' hI hb => hI.step hb) (fun K w hI => hI.max) hI
  · intro K f w hI _ _
    exact n1_any K h w0 m f w hI
  · intro K f w hI _ hK
    exact n2_any K h w0 m f w hI hB hK
set_option maxRecDepth 20000 in
set_option maxHeartbeats 4000000 in
theorem Names_any (s : ByteArray) (m : Int) (w : World) (hm : w.cell? ⟨0, 0, none⟩ = some (.int .i64 m)) (hs : s.size ≤ 2001) : Calls Tryd.prog 4 #[.string s] w (NamQ s w.heap.size w) := by
  obtain ⟨n, hn⟩ : ∃ n, s.size = n := ⟨_, rfl⟩
  have HN := Lib.hid hn
  by_cases h2000 : 2000 < n
  · have hb : (n : Int) > 2000 := by omega
    go_enter Tryd.func4, Tryd.ntmps4
    go_wp2_with fail
    go_ret2
    exact ⟨.inl ⟨by rw [HN.out]; exact h2000, rfl⟩, Below.refl _ _⟩
  have hb : ¬ (n : Int) > 2000 := by omega
  have h0 : 0 < w.heap.size := by
    rcases Nat.eq_zero_or_pos w.heap.size with h | h
    · have : w.heap[0]? = none := Array.getElem?_eq_none (by omega)
      unfold World.cell? at hm
      rw [this] at hm; cases hm
    · exact h
  have HI0 : Hid (NmI w.heap.size w m [] (w.alloc (.cells #[.slice none 0 0] 23))) := Lib.hid (by
    refine ⟨⟨.slice none 0 0, by simp, World.ownsRow_nil _ _ _ _⟩, by have := heap_alloc_new w (.cells #[.slice none 0 0] 23); unfold World.frozen?; simp only [this]; rfl, (Below.refl _ _).alloc (Nat.le_refl _) _, by simp, ?_, h0⟩
    rw [World.cell?_alloc_lt _ _ _ h0]; exact hm)
  have HC := Lib.hid (parseN_any s w.heap.size w m _ (by omega) (Nat.le_refl _) HI0.out)
  clear hm HI0
  cases hscr : scr (lst s) with
  | none =>
    have HS := Lib.hid hscr
    rw [hscr] at HC
    clear hscr
    go_enter Tryd.func4, Tryd.ntmps4
    go_wp2_with fail
    refine Calls.mono HC.out ?_
    rintro e' w' ⟨rfl, K, hI, _⟩
    have HB := Lib.hid hI.below
    clear hI
    go_wp2_with fail
    go_ret2
    exact ⟨.inr (.inl ⟨by omega, HS.out, rfl⟩), HB.out⟩
  | some P =>
    have HS := Lib.hid hscr
    rw [hscr] at HC
    clear hscr
    go_enter Tryd.func4, Tryd.ntmps4
    go_wp2_with fail
    refine Calls.mono HC.out ?_
    rintro e' w' ⟨rfl, K, hI, hK⟩
    obtain rfl : K = P := hK P HS.out
    have HB := Lib.hid hI.below
    obtain ⟨u, hu, ho⟩ := hI.cell
    have hgl := Nat.le_trans (gapsA_len K) (scr_len HS.out)
    rw [lst_len, HN.out] at hgl
    obtain ⟨ga, gc, he, _, _, _⟩ := ownForm ho
    obtain ⟨a', c', hu2, hv⟩ := IsRow.own (by decide) ho
    rw [he] at hu2
    cases hu2
    have HV := Lib.hid hv
    obtain ⟨q, hq⟩ : ∃ q, q = (gapsA [] K).length := ⟨_, rfl⟩
    rw [← hq] at he hgl
    have HQ := Lib.hid hq
    subst he
    clear hI hK ho hq hv
    go_wp2_with fail
    go_ret2
    exact ⟨.inr (.inr ⟨by omega, K, ga, q, gc, HS.out, rfl, HQ.out, by omega, HV.out⟩), HB.out⟩
end Go.Proofs.YtooocllampkibaaDoor
