/- Contract: the prices. -/
import Derived.Test.YtjmpfkolpgbebaaAssignLeast
import Derived.Maps.AppendAt
import Derived.Deep.AppendLies
import Derived.Deep.RegionHeld3
namespace Go.Proofs.Ytjmpfkolpgbebaa
open Go.ChangeShapes Go.WideShapes Go.ChangeAt Go.RowKit
set_option linter.unusedVariables false
open As
inductive UpA (w : World) : World → Prop where
  | refl : UpA w w
  | alloc {w' : World} (o : Obj) : UpA w w' → UpA w (w'.alloc o)
  | drew {w' : World} : UpA w w' → UpA w w'.drew
  | base {w' w'' : World} : UpA w w' → Below w.heap.size w' w'' → UpA w w''
theorem UpA.bel {w w' : World} (h : UpA w w') : Below w.heap.size w w' := by
  induction h with
  | refl => exact Below.refl _ _
  | alloc o _ ih => exact ih.alloc ih.size o
  | drew _ ih => exact ih.drew
  | base _ hb ih => exact ih.trans hb
theorem UpA.own {w w' : World} (h : UpA w w') {H n : Nat} {v : Value} {xs : List Value} (ho : w.ownsRow H 2 1 v n xs) : w'.ownsRow H 2 1 v n xs := ownsRow_below ho h.bel
/-- 'append([]T(nil), x...)' at a step of a drawn region -/
theorem stepAppendAt {P : Program} (w : World) {ops : Array Oper} {o : Oper} {a : Act} {K : Act → World → Prop} {Q : Exit → Act → World → Prop} {E : Prop} (hgd : o.guard = none) (s x : Operand) (t : TypeId)
    (ho : o.op = .call { callee := .builtin .append, args := #[s, x], argTypes := #[t, t] })
    (base : Nat) (e : TypeId) (z : Value) (bytes : Nat) (ht : P.underlying t = some (.slice e)) (hinfo : (P.info? e).map (fun i => (i.zero, i.size, i.bytes)) = some (some z, 1, bytes)) (hz1 : z.cells.size = 1)
    (hs : a.eval s = .slice none 0 0) (ad : Addr) (m c : Nat) (news : List Value) (hx : a.eval x = .slice (some ad) m c) (hl : news.length = m) (hnews : ∀ j u, news[j]? = some u → w.cell? (ad.add j) = some u) (h1 : ∀ u ∈ news, u.oneCell' = true)
    (h63 : m ≤ maxLen) (hbytes : m * bytes ≤ 140737488355328) (hbase : base ≤ w.heap.size)
    (h : ∀ v' w', w'.ownsRow base e 1 v' m news → w.grownBy w' none → K (a.put o.dst v') w') :
    if Region.wanted o (yielded ops a.tmps) = true then Oper.wp P o a w K Q else E := by
  have hw : Region.wanted o (yielded ops a.tmps) = true := by simp [Region.wanted, hgd]
  rw [if_pos hw]
  obtain ⟨i, hi, hz0, hzs, hzb⟩ := info_parts hinfo
  obtain ⟨v', w', hr, h2, h3, h4, h5⟩ := run_append_own_at (P := P) w base t o.type e i z 1 bytes ht hi hz0 hzs hzb hz1 (by decide) (.slice none 0 0) 0 [] (World.ownsRow_nil _ _ _ _) ad m c news (by omega) hnews h1 (by omega) (by rw [Nat.zero_add]; exact hbytes) hbase
  unfold Oper.wp execOp
  simp only [ho, resolve, invoke, builtin, Sem.run_bind, Sem.run_pure, Result.andThen_ok, List.map_toArray, List.map_cons, List.map_nil, hs, hx, hr]
  exact h v' w' (by simpa using h2) h3
theorem ownFormA {w : World} {base n size : Nat} {e : TypeId} {v : Value} {xs : List Value} (h : w.ownsRow base e size v n xs) : ∃ a cp, v = .slice a n cp ∧ n ≤ cp ∧ cp ≤ 9223372036854775807 := by
  have hml : maxLen = 9223372036854775807 := rfl
  rcases h.2 with ⟨rfl, rfl⟩ | ⟨g, cap, cur, rfl, _, _, h1, h2, _, _⟩
  · exact ⟨none, 0, rfl, Nat.le_refl _, by omega⟩
  · exact ⟨some ⟨g, 0, none⟩, cap, rfl, h1, by omega⟩
theorem ownValsA {w : World} {base n : Nat} {e : TypeId} {v : Value} {xs : List Value} (h : w.ownsRow base e 1 v n xs) (hl : xs.length = n) : ∃ a c, v = .slice a n c ∧ Vals w a xs := by
  obtain ⟨a, c, e1, hv⟩ := IsVals.own h
  rw [hl] at e1
  exact ⟨a, c, e1, hv⟩
def rowI (U : Nat → Int) (n : Nat) : List Int := (List.range n).map U
def PricesP (n : Nat) (C : Nat → Nat → Int) (w : World) (e : Ending) (w' : World) : Prop := ∃ (U V : Nat → Int) (ua va : Option Addr) (cu cv : Nat), e = .returned (.tuple #[.slice ua n cu, .slice va n cv, .int .i64 0]) ∧ Vals w' ua (ints64 (rowI U n)) ∧ Vals w' va (ints64 (rowI V n)) ∧ (∀ p k, p < n → k < n → U p + V k ≤ C p k) ∧ (∀ p, p < n → -1000000000 ≤ U p ∧ U p ≤ 1000000000) ∧ (∀ k, k < n → -2000000000 ≤ V k ∧ V k ≤ 0) ∧ IsLeast n C (sm (fun p => U p + V p) n) ∧ Below w.heap.size w w'
theorem aPrices_bad (R : List (List Int)) (a : Option Addr) (n cap : Nat) (w : World) (hn : n = R.length) (hmax : n ≤ 9223372036854775807) (hT : Tbl w a R) (hb : costsE R ≠ 0) :
    Calls Try.prog 5 #[.slice a n cap] w fun e w' => e = .returned (.tuple #[.slice none 0 0, .slice none 0 0, .int .i64 (costsE R)]) ∧ Below w.heap.size w w' := by
  have C := Lib.hid (aCheck_any R a n cap w hn hmax hT)
  obtain ⟨z, hz⟩ : ∃ z, costsE R = z := ⟨_, rfl⟩
  rw [hz] at C hb ⊢
  have hb2 : (z != 0) = true := by simpa using hb
  clear hT hn hz
  go_enter Try.func5, Try.ntmps5
  go_wp2_with (go_at_call 8; refine Calls.mono C.out ?_; rintro e w1 ⟨rfl, h1⟩; have HB := Lib.hid h1; clear h1)
  go_ret3
  exact ⟨rfl, HB.out⟩
theorem row_news {w : World} {g n : Nat} {t : TypeId} {f : Nat → Int} (h : w.rowIs g t (n + 1) (i64s f)) : ∀ j u, (ints64 (rowI (fun p => f (p + 1)) n))[j]? = some u → w.cell? ((⟨g, 1, none⟩ : Addr).add j) = some u := fun j u hu => by
  rw [Addr.add_mid]
  have hj : j < n := by have := (List.getElem?_eq_some_iff.1 hu).1; simpa [ints64, rowI] using this
  rw [show 1 + j = j + 1 from by omega, h.cell (i := j + 1) (by omega)]
  rw [ints64, rowI, List.getElem?_map, List.getElem?_map, List.getElem?_range hj] at hu
  simpa [i64s] using hu
theorem ints_one (L : List Int) : ∀ u ∈ ints64 L, u.oneCell' = true := fun u hu => by
  unfold ints64 at hu
  obtain ⟨x, _, rfl⟩ := List.mem_map.1 hu
  rfl
theorem As.Got.least {n : Nat} {C : Nat → Nat → Int} {b : Nat → Nat} {u v : Nat → Int} (h : Got n n C b u v) : IsLeast n C (sm (fun p => u (p + 1) + v (p + 1)) n) := by
  have hch : ∀ p, ∃ c, p < n → 1 ≤ c ∧ c ≤ n ∧ b c = p + 1 := fun p => by
    by_cases hp : p < n
    · obtain ⟨c, c1, c2, c3⟩ := h.mat.all (p + 1) (by omega) (by omega)
      exact ⟨c, fun _ => ⟨c1, c2, c3⟩⟩
    · exact ⟨0, fun h => absurd h hp⟩
  obtain ⟨c, hc⟩ := Classical.axiomOfChoice hch
  have hg := h.gives (t := fun p => c p - 1) ⟨fun k h1 h2 => by
    have hf := h.mat.full h1 h2
    have hl := h.mat.le k h1 h2
    obtain ⟨d1, d2, d3⟩ := hc (b k - 1) (by omega)
    have := h.mat.inj (c (b k - 1)) k d1 d2 h1 h2 (by omega) (by omega)
    omega⟩
  rw [← hg.2.1]
  exact hg.2.2
/-- where 'x[1:]' begins -/
def adr1 (n g : Nat) : Addr := if n = 0 then ⟨g, 0, none⟩ else ⟨g, 1, none⟩
set_option maxRecDepth 20000 in
set_option maxHeartbeats 4000000 in
theorem aPrices_good (R : List (List Int)) (a : Option Addr) (n cap : Nat) (w : World) (hn : n = R.length) (hmax : n ≤ 9223372036854775807) (hcap : n ≤ cap) (hcap2 : cap ≤ 9223372036854775807) (hT : Tbl w a R) (hE : costsE R = 0) :
    Calls Try.prog 5 #[.slice a n cap] w fun e w' => PricesP n (cst R) w e w' := by
  have C := Lib.hid (aCheck_any R a n cap w hn hmax hT)
  obtain ⟨h12, _, hFF⟩ := costsE_good hE
  rw [← hn] at h12 hFF
  have HF := Lib.hid hFF
  have HTW : Hid (∀ W, Below w.heap.size w W → Tbl W a R) := Lib.hid (fun W h => hT.below h (Nat.le_refl _))
  have CS := Lib.hid (fun W h => solve_any R a n cap W hn hcap hcap2 (HTW.out W h) hE)
  rw [hE] at C
  clear hn hT hE hmax hFF
  go_enter Try.func5, Try.ntmps5
  go_upto_region 5 with (first
    | (go_at_call 8; refine Calls.mono C.out ?_; rintro e w1 ⟨rfl, h1⟩; have HB1 := Lib.hid h1; clear h1)
    | (go_at_call 12; refine Calls.mono (CS.out _ HB1.out) ?_; rintro e w2 ⟨gs, gu, gv, gb, u, v, b, rfl, h1, h2⟩; have HS := Lib.hid h1; have HG := Lib.hid h2; clear h1 h2))
  have HDX : Hid (∀ W, UpA w2 W → W.cell? ⟨gs, 1, none⟩ = some (.slice (some ⟨gu, 0, none⟩) (n + 1) (n + 1)) ∧ W.cell? ⟨gs, 2, none⟩ = some (.slice (some ⟨gv, 0, none⟩) (n + 1) (n + 1))) := Lib.hid (fun W h => by
    have := HS.out.step h.bel
    exact ⟨this.var.cell (i := 1) (by omega), this.var.cell (i := 2) (by omega)⟩)
  have HNU : Hid (∀ W, UpA w2 W → ∀ j x, (ints64 (rowI (fun p => u (p + 1)) n))[j]? = some x → W.cell? ((adr1 n gu).add j) = some x) := Lib.hid (fun W h j x hx => by
    have hj : j < n := by have := (List.getElem?_eq_some_iff.1 hx).1; simpa [ints64, rowI] using this
    rw [adr1, if_neg (by omega)]
    exact row_news (HS.out.step h.bel).ru j x hx)
  have HNV : Hid (∀ W, UpA w2 W → ∀ j x, (ints64 (rowI (fun p => v (p + 1)) n))[j]? = some x → W.cell? ((adr1 n gv).add j) = some x) := Lib.hid (fun W h j x hx => by
    have hj : j < n := by have := (List.getElem?_eq_some_iff.1 hx).1; simpa [ints64, rowI] using this
    rw [adr1, if_neg (by omega)]
    exact row_news (HS.out.step h.bel).rv j x hx)
  have HLU : Hid ((ints64 (rowI (fun p => u (p + 1)) n)).length = n) := Lib.hid (by simp [ints64, rowI])
  have HLV : Hid ((ints64 (rowI (fun p => v (p + 1)) n)).length = n) := Lib.hid (by simp [ints64, rowI])
  have H63 : Hid (n ≤ maxLen) := Lib.hid (by unfold maxLen; omega)
  have HBY : Hid (n * 8 ≤ 140737488355328) := Lib.hid (by omega)
  have h1n : (1 : Int) ≤ (n : Int) + 1 := by omega
  have lgs := HS.out.var.lt
  have HFE : Hid (∀ p k, p < n → k < n → u (p + 1) + v (k + 1) ≤ cst R p k) := Lib.hid (fun p k hp hk => by
    have := HG.out.pri.feas (p + 1) (k + 1) (by omega) (by omega) (by omega) (by omega)
    simpa using this)
  have HBU : Hid (∀ p, p < n → -1000000000 ≤ u (p + 1) ∧ u (p + 1) ≤ 1000000000) := Lib.hid (fun p hp => HG.out.bu (p + 1) (by omega) (by omega))
  have HBV : Hid (∀ k, k < n → -2000000000 ≤ v (k + 1) ∧ v (k + 1) ≤ 0) := Lib.hid (fun k hk => HG.out.pri.vlow HG.out.mat HF.out (Nat.le_refl _) (fun p h1 h2 => (HG.out.bu p h1 h2).2) (by omega) (by omega))
  have HLS : Hid (IsLeast n (cst R) (sm (fun p => u (p + 1) + v (p + 1)) n)) := Lib.hid HG.out.least
  by_cases hn0 : n = 0
  · subst hn0
    have HAU : Hid (adr1 0 gu = ⟨gu, 0, none⟩) := Lib.hid (by rw [adr1, if_pos rfl])
    have HAV : Hid (adr1 0 gv = ⟨gv, 0, none⟩) := Lib.hid (by rw [adr1, if_pos rfl])
    rw [HAU.out] at HNU
    rw [HAV.out] at HNV
    go_region_held3 (fun W => W.cell? ⟨gs, 1, none⟩ = some (.slice (some ⟨gu, 0, none⟩) (0 + 1) (0 + 1)) ∧ W.cell? ⟨gs, 2, none⟩ = some (.slice (some ⟨gv, 0, none⟩) (0 + 1) (0 + 1)))
      (exact HDX.out _ (by repeat (first | exact UpA.refl | exact HU4.out | exact HU3.out | refine UpA.alloc _ ?_ | refine UpA.drew ?_)))
      (first
        | (refine stepAppendAt _ rfl (.const (.slice none 0 0)) (.tmp 18) 27 rfl w2.heap.size 2 (.int .i64 0) 8 Try.underlying27 infoI64 (by rfl) rfl ⟨gu, 0, none⟩ 0 0 (ints64 (rowI (fun p => u (p + 1)) 0)) (by simp [go_sem]) HLU.out (HNU.out _ (by repeat (first | exact UpA.refl | exact HU4.out | exact HU3.out | refine UpA.alloc _ ?_ | refine UpA.drew ?_))) (ints_one _) H63.out HBY.out ((show UpA w2 _ from (by repeat (first | exact UpA.refl | exact HU4.out | exact HU3.out | refine UpA.alloc _ ?_ | refine UpA.drew ?_))).bel.size) ?_; intro v3 w3 hown3 hgrow3; have HK3 := Lib.hid ((Below.refl _ _).grown hgrow3 (Nat.le_refl _) (fun k hk => by cases hk)); have HU3 := Lib.hid (UpA.base (w := w2) (by repeat (first | exact UpA.refl | exact HU4.out | exact HU3.out | refine UpA.alloc _ ?_ | refine UpA.drew ?_)) ((Below.refl _ _).grown hgrow3 ((show UpA w2 _ from (by repeat (first | exact UpA.refl | exact HU4.out | exact HU3.out | refine UpA.alloc _ ?_ | refine UpA.drew ?_))).bel.size) (fun k hk => by cases hk))); have HO3 := Lib.hid (fun W (h : UpA w3 W) => h.own hown3); clear hown3 hgrow3)
        | (refine stepAppendAt _ rfl (.const (.slice none 0 0)) (.tmp 24) 27 rfl w2.heap.size 2 (.int .i64 0) 8 Try.underlying27 infoI64 (by rfl) rfl ⟨gv, 0, none⟩ 0 0 (ints64 (rowI (fun p => v (p + 1)) 0)) (by simp [go_sem]) HLV.out (HNV.out _ (by repeat (first | exact UpA.refl | exact HU4.out | exact HU3.out | refine UpA.alloc _ ?_ | refine UpA.drew ?_))) (ints_one _) H63.out HBY.out ((show UpA w2 _ from (by repeat (first | exact UpA.refl | exact HU4.out | exact HU3.out | refine UpA.alloc _ ?_ | refine UpA.drew ?_))).bel.size) ?_; intro v4 w4 hown4 hgrow4; have HK4 := Lib.hid ((Below.refl _ _).grown hgrow4 (Nat.le_refl _) (fun k hk => by cases hk)); have HU4 := Lib.hid (UpA.base (w := w2) (by repeat (first | exact UpA.refl | exact HU4.out | exact HU3.out | refine UpA.alloc _ ?_ | refine UpA.drew ?_)) ((Below.refl _ _).grown hgrow4 ((show UpA w2 _ from (by repeat (first | exact UpA.refl | exact HU4.out | exact HU3.out | refine UpA.alloc _ ?_ | refine UpA.drew ?_))).bel.size) (fun k hk => by cases hk))); have HO4 := Lib.hid (fun W (h : UpA w4 W) => h.own hown4); clear hown4 hgrow4)
        | fail)
    all_goals
      have HA := Lib.hid (ownsRow_below (HO3.out _ (by repeat (first | exact UpA.refl | refine UpA.alloc _ ?_ | refine UpA.drew ?_))) HK4.out)
      have HZ := Lib.hid (HO4.out _ UpA.refl)
      obtain ⟨ua, cu, hu, hvu⟩ := ownValsA HA.out HLU.out
      obtain ⟨va, cv, hv, hvv⟩ := ownValsA HZ.out HLV.out
      have HVU := Lib.hid hvu
      have HVV := Lib.hid hvv
      subst hu hv
      clear hvu hvv HA HZ
      go_wp2_with fail
      go_ret3
      exact ⟨fun p => u (p + 1), fun p => v (p + 1), ua, va, cu, cv, rfl, HVU.out, HVV.out, HFE.out, HBU.out, HBV.out, HLS.out, HB1.out.trans ((HS.out.below.trans (HU4.out.bel.mono HS.out.below.size)).mono HB1.out.size)⟩
  · have hn1 : ¬ (n + 1 = 1) := by omega
    have HAU : Hid (adr1 n gu = ⟨gu, 1, none⟩) := Lib.hid (by rw [adr1, if_neg hn0])
    have HAV : Hid (adr1 n gv = ⟨gv, 1, none⟩) := Lib.hid (by rw [adr1, if_neg hn0])
    rw [HAU.out] at HNU
    rw [HAV.out] at HNV
    go_region_held3 (fun W => W.cell? ⟨gs, 1, none⟩ = some (.slice (some ⟨gu, 0, none⟩) (n + 1) (n + 1)) ∧ W.cell? ⟨gs, 2, none⟩ = some (.slice (some ⟨gv, 0, none⟩) (n + 1) (n + 1)))
      (exact HDX.out _ (by repeat (first | exact UpA.refl | exact HU4.out | exact HU3.out | refine UpA.alloc _ ?_ | refine UpA.drew ?_)))
      (first
        | (refine stepAppendAt _ rfl (.const (.slice none 0 0)) (.tmp 18) 27 rfl w2.heap.size 2 (.int .i64 0) 8 Try.underlying27 infoI64 (by rfl) rfl ⟨gu, 1, none⟩ n n (ints64 (rowI (fun p => u (p + 1)) n)) (by simp [go_sem]) HLU.out (HNU.out _ (by repeat (first | exact UpA.refl | exact HU4.out | exact HU3.out | refine UpA.alloc _ ?_ | refine UpA.drew ?_))) (ints_one _) H63.out HBY.out ((show UpA w2 _ from (by repeat (first | exact UpA.refl | exact HU4.out | exact HU3.out | refine UpA.alloc _ ?_ | refine UpA.drew ?_))).bel.size) ?_; intro v3 w3 hown3 hgrow3; have HK3 := Lib.hid ((Below.refl _ _).grown hgrow3 (Nat.le_refl _) (fun k hk => by cases hk)); have HU3 := Lib.hid (UpA.base (w := w2) (by repeat (first | exact UpA.refl | exact HU4.out | exact HU3.out | refine UpA.alloc _ ?_ | refine UpA.drew ?_)) ((Below.refl _ _).grown hgrow3 ((show UpA w2 _ from (by repeat (first | exact UpA.refl | exact HU4.out | exact HU3.out | refine UpA.alloc _ ?_ | refine UpA.drew ?_))).bel.size) (fun k hk => by cases hk))); have HO3 := Lib.hid (fun W (h : UpA w3 W) => h.own hown3); clear hown3 hgrow3)
        | (refine stepAppendAt _ rfl (.const (.slice none 0 0)) (.tmp 24) 27 rfl w2.heap.size 2 (.int .i64 0) 8 Try.underlying27 infoI64 (by rfl) rfl ⟨gv, 1, none⟩ n n (ints64 (rowI (fun p => v (p + 1)) n)) (by simp [go_sem]) HLV.out (HNV.out _ (by repeat (first | exact UpA.refl | exact HU4.out | exact HU3.out | refine UpA.alloc _ ?_ | refine UpA.drew ?_))) (ints_one _) H63.out HBY.out ((show UpA w2 _ from (by repeat (first | exact UpA.refl | exact HU4.out | exact HU3.out | refine UpA.alloc _ ?_ | refine UpA.drew ?_))).bel.size) ?_; intro v4 w4 hown4 hgrow4; have HK4 := Lib.hid ((Below.refl _ _).grown hgrow4 (Nat.le_refl _) (fun k hk => by cases hk)); have HU4 := Lib.hid (UpA.base (w := w2) (by repeat (first | exact UpA.refl | exact HU4.out | exact HU3.out | refine UpA.alloc _ ?_ | refine UpA.drew ?_)) ((Below.refl _ _).grown hgrow4 ((show UpA w2 _ from (by repeat (first | exact UpA.refl | exact HU4.out | exact HU3.out | refine UpA.alloc _ ?_ | refine UpA.drew ?_))).bel.size) (fun k hk => by cases hk))); have HO4 := Lib.hid (fun W (h : UpA w4 W) => h.own hown4); clear hown4 hgrow4)
        | fail)
    all_goals
      have HA := Lib.hid (ownsRow_below (HO3.out _ (by repeat (first | exact UpA.refl | refine UpA.alloc _ ?_ | refine UpA.drew ?_))) HK4.out)
      have HZ := Lib.hid (HO4.out _ UpA.refl)
      obtain ⟨ua, cu, hu, hvu⟩ := ownValsA HA.out HLU.out
      obtain ⟨va, cv, hv, hvv⟩ := ownValsA HZ.out HLV.out
      have HVU := Lib.hid hvu
      have HVV := Lib.hid hvv
      subst hu hv
      clear hvu hvv HA HZ
      go_wp2_with fail
      go_ret3
      exact ⟨fun p => u (p + 1), fun p => v (p + 1), ua, va, cu, cv, rfl, HVU.out, HVV.out, HFE.out, HBU.out, HBV.out, HLS.out, HB1.out.trans ((HS.out.below.trans (HU4.out.bel.mono HS.out.below.size)).mono HB1.out.size)⟩
end Go.Proofs.Ytjmpfkolpgbebaa
