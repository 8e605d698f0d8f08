/- Contracts: a copy of a row of slots; a slot more; the program's. -/
import Derived.Test.YtfjoakhcgpckgaaBookGapsR
import Derived.Maps.AppendAt
import Derived.Lib.SliceRun
import Derived.Deep.AppendLies
import Derived.Deep.MidRow
import Derived.Deep.RegionHeld3
namespace Go.Proofs.Ytfjoakhcgpckgaa
open Go.ChangeShapes Go.WideShapes Go.ChangeAt Go.RowKit
set_option linter.unusedVariables false
open Bk
theorem slots_news {w : World} {b off : Nat} {L : List Sl} (h : SlotsAt w b off L) : ∀ j u, (slc L)[j]? = some u → w.cell? ((⟨b, off, none⟩ : Addr).add j) = some u := fun j u hu => by
  rw [Addr.add_mid]
  have hj : j < L.length * 3 := by have := (List.getElem?_eq_some_iff.1 hu).1; rwa [slc_length] at this
  obtain ⟨i, r, hr, rfl⟩ : ∃ i r, r < 3 ∧ j = i * 3 + r := ⟨j / 3, j % 3, by omega, by omega⟩
  have hi : i < L.length := by omega
  obtain ⟨h0, h1, h2⟩ := h i _ (List.getElem?_eq_getElem hi)
  obtain ⟨g0, g1, g2⟩ := slc_at (List.getElem?_eq_getElem hi)
  rcases (show r = 0 ∨ r = 1 ∨ r = 2 by omega) with rfl | rfl | rfl
  · rw [Nat.add_zero] at hu ⊢
    rw [g0] at hu; cases hu; exact h0
  · rw [g1] at hu; cases hu; rw [← Nat.add_assoc]; exact h1
  · rw [g2] at hu; cases hu; rw [← Nat.add_assoc]; exact h2
theorem slc_one (L : List Sl) : ∀ u ∈ slc L, u.oneCell' = true := fun u hu => by
  unfold slc at hu
  obtain ⟨s, _, h⟩ := List.mem_flatMap.1 hu
  simp at h
  rcases h with rfl | rfl | rfl <;> rfl
theorem slots_one {w : World} {b : Nat} {x : Sl} (h0 : w.cell? ⟨b, 0, none⟩ = some (.int .i64 x.fr)) (h1 : w.cell? ⟨b, 1, none⟩ = some (.int .i64 x.to)) (h2 : w.cell? ⟨b, 2, none⟩ = some (.int .i64 x.n)) (hl : b < w.heap.size) : Slots w (some ⟨b, 0, none⟩) [x] := fun _ => ⟨b, 0, rfl, hl, fun i s hi => by
  cases i with
  | zero => simp at hi; subst hi; exact ⟨by simpa using h0, by simpa using h1, by simpa using h2⟩
  | succ i => simp at hi⟩
set_option maxRecDepth 20000 in
set_option maxHeartbeats 1600000 in
theorem cloneSl_nil (cap : Nat) (w : World) : Calls Try.prog 91 #[.slice none 0 cap] w fun e w' => e = .returned (.slice none 0 0) ∧ w' = w := by
  have hE := Lib.run_eql_slice_nil (P := Try.prog) w 128 130 none 0 cap 0 0 Try.underlying128
  go_enter Try.func91, Try.ntmps91
  go_wp2_with fail
  go_ret
  exact ⟨rfl, rfl⟩
set_option maxRecDepth 20000 in
set_option maxHeartbeats 1600000 in
theorem cloneSl_some (ad : Addr) (L : List Sl) (n cap : Nat) (w : World) (hn : n = L.length) (hl : n ≤ 101) (hnw : ∀ j u, (slc L)[j]? = some u → w.cell? (ad.add j) = some u) (hlt : 0 < n → ad.block < w.heap.size) : Calls Try.prog 91 #[.slice (some ad) n cap] w fun e w' => ∃ v, e = .returned v ∧ w'.ownsRow w.heap.size 130 3 v n (slc L) ∧ Below w.heap.size w w' := by
  obtain ⟨i0, hi, hz0, hz1, hz2⟩ := info_parts infoSlot
  have hE := Lib.run_eql_slice_nil (P := Try.prog) w 128 130 (some ad) n cap 0 0 Try.underlying128
  have HLEN : Hid ((slc L).length = n * 3) := Lib.hid (by rw [slc_length, hn])
  have HNW : Hid (∀ j u, (slc L)[j]? = some u → (w.alloc (.cells #[] 130)).cell? (ad.add j) = some u) := Lib.hid (fun j u hu => by
    have hj : j < (slc L).length := (List.getElem?_eq_some_iff.1 hu).1
    rw [slc_length] at hj
    have := hlt (by omega)
    have hb : Below w.heap.size w (w.alloc (.cells #[] 130)) := (Below.refl _ _).alloc (Nat.le_refl _) _
    exact (hb.cell (p := ad.add j) (by unfold Addr.add; split <;> exact this)).trans (hnw j u hu))
  clear hnw hlt hn
  go_enter Try.func91, Try.ntmps91
  have HW1 := Lib.hid (show Below w.heap.size w (w.alloc (.cells #[] 130)) from (Below.refl _ _).alloc (Nat.le_refl _) _)
  have HMD := Lib.hid (World.ownsRow_made (e := 130) (size := 3) w #[] 0 (Nat.le_refl w.heap.size) (Nat.zero_le _) rfl)
  go_wp2_with (at_builtin; refine wpList_append_own_at _ (by rfl) _ _ 128 (by rfl) w.heap.size 130 i0 (.agg #[.int .i64 0, .int .i64 0, .int .i64 0]) 3 24 Try.underlying128 hi hz0 hz1 hz2 (by rfl) (by decide) (.slice (some ⟨w.heap.size, 0, none⟩) 0 0) 0 [] (by rfl) HMD.out ad n cap (slc L) (by rfl) HLEN.out HNW.out (slc_one L) (by unfold maxLen; omega) (by omega) (by simp) ?_; intro v' w1 hown1 hgrow1 _ _; simp only [Nat.zero_add, List.nil_append] at hown1; have HB1 := Lib.hid (show Below w.heap.size w w1 from HW1.out.grown hgrow1 HW1.out.size (fun k hk => by simp [Value.ownBlock] at hk; omega)); have HO := Lib.hid hown1; clear hown1 hgrow1)
  go_ret
  exact ⟨_, rfl, HO.out, HB1.out⟩
theorem cloneSl_any (L : List Sl) (a : Option Addr) (n cap : Nat) (w : World) (hn : n = L.length) (hl : n ≤ 101) (hL : Slots w a L) : Calls Try.prog 91 #[.slice a n cap] w fun e w' => ∃ v, e = .returned v ∧ w'.ownsRow w.heap.size 130 3 v n (slc L) ∧ Below w.heap.size w w' := by
  by_cases h : n = 0
  · have hLn : L = [] := List.length_eq_zero_iff.1 (by omega)
    subst hLn
    subst h
    cases a with
    | none =>
      refine (cloneSl_nil cap w).mono ?_
      rintro e w' ⟨rfl, rfl⟩
      exact ⟨_, rfl, World.ownsRow_nil _ _ _ _, Below.refl _ _⟩
    | some ad => exact cloneSl_some ad [] 0 cap w rfl (by omega) (fun j u hu => by simp [slc] at hu) (fun h => absurd h (by omega))
  · obtain ⟨b, off, rfl, hb, hat⟩ := hL (by omega)
    exact cloneSl_some ⟨b, off, none⟩ L n cap w hn hl (slots_news hat) (fun _ => hb)
/-- what comes of a world by steps that turn nothing that lay there -/
inductive UpB (w : World) : World → Prop where
  | refl : UpB w w
  | alloc {w' : World} (o : Obj) : UpB w w' → UpB w (w'.alloc o)
  | drew {w' : World} : UpB w w' → UpB w w'.drew
  | call {w' w'' : World} : UpB w w' → Below w'.heap.size w' w'' → UpB w w''
  | base {w' w'' : World} : UpB w w' → Below w.heap.size w' w'' → UpB w w''
theorem UpB.bel {w w' : World} (h : UpB w w') : Below w.heap.size w w' := by
  induction h with
  | refl => exact Below.refl _ _
  | alloc o _ ih => exact ih.alloc ih.size o
  | drew _ ih => exact ih.drew
  | call _ hb ih => exact ih.trans (hb.mono ih.size)
  | base _ hb ih => exact ih.trans hb
theorem UpB.own {w w' : World} (h : UpB w w') {H n : Nat} {v : Value} {xs : List Value} (ho : w.ownsRow H 130 3 v n xs) : w'.ownsRow H 130 3 v n xs := ownsRow_below ho h.bel
theorem keepB {w w' : World} (hb : Below w.heap.size w w') {k : Nat} {o : Obj} (h : w.heap[k]? = some o) : w'.heap[k]? = some o := (hb.block k (Array.getElem?_eq_some_iff.1 h).1).trans h
theorem heapAtB {w : World} {o : Obj} {H : Nat} (h : w.heap.size = H) : (w.alloc o).heap[H]? = some o := h ▸ heap_alloc_new w o
theorem stepPushN {P : Program} (w : World) {ops : Array Oper} {o : Oper} {a : Act} {K : Act → World → Prop} {Q : Exit → Act → World → Prop} {E : Prop} (hgd : o.guard = none) (s x : Operand) (t : TypeId)
    (ho : o.op = .call { callee := .builtin .append, args := #[s, x], argTypes := #[t, t] })
    (base : Nat) (e : TypeId) (z : Value) (size bytes : Nat) (ht : P.underlying t = some (.slice e)) (hinfo : (P.info? e).map (fun i => (i.zero, i.size, i.bytes)) = some (some z, size, bytes)) (hz1 : z.cells.size = size) (hsz : 0 < size)
    (v : Value) (n : Nat) (xs : List Value) (hs : a.eval s = v) (hown : w.ownsRow base e size v n xs)
    (H : Nat) (us : List Value) (hul : us.length = size) (hx : a.eval x = .slice (some ⟨H, 0, none⟩) 1 1) (hH : w.heap[H]? = some (.cells us.toArray e (0, 0))) (hu : ∀ u ∈ us, u.oneCell' = true)
    (h63 : n + 1 ≤ maxLen) (hbytes : (n + 1) * bytes ≤ 140737488355328) (hbase : base ≤ w.heap.size)
    (h : ∀ g cap w', w'.ownsRow base e size (.slice (some ⟨g, 0, none⟩) (n + 1) cap) (n + 1) (xs ++ us) → w.grownBy w' v.ownBlock → K (a.put o.dst (.slice (some ⟨g, 0, none⟩) (n + 1) cap)) w') :
    if Region.wanted o (yielded ops a.tmps) = true then Oper.wp P o a w K Q else E := by
  obtain ⟨i, hi, hz0, hzs, hzb⟩ := info_parts hinfo
  exact step_append_lies w hgd s x t ho base e i z size bytes ht hi hz0 hzs hzb hz1 hsz v n xs hs hown ⟨H, 0, none⟩ 1 1 us hx (by omega) (World.news_of_block hH) hu (by decide) h63 hbytes hbase _ rfl (fun g cap w' h1 h2 _ _ => h g cap w' h1 h2)
/-- the box of a slot -/
structure BoxS (c : Nat) (x : Sl) (w : World) : Prop where
  at0 : w.cell? ⟨c, 0, none⟩ = some (.int .i64 x.fr)
  at1 : w.cell? ⟨c, 1, none⟩ = some (.int .i64 x.to)
  at2 : w.cell? ⟨c, 2, none⟩ = some (.int .i64 x.n)
  lt : c < w.heap.size
theorem BoxS.below {c : Nat} {x : Sl} {w w' : World} (h : BoxS c x w) (hb : Below w.heap.size w w') : BoxS c x w' := ⟨(hb.cell (p := ⟨c, _, none⟩) h.lt).trans h.at0, (hb.cell (p := ⟨c, _, none⟩) h.lt).trans h.at1, (hb.cell (p := ⟨c, _, none⟩) h.lt).trans h.at2, Nat.lt_of_lt_of_le h.lt hb.size⟩
theorem BoxS.new (x : Sl) (w : World) (t : TypeId) : BoxS w.heap.size x (w.alloc (.cells #[.int .i64 x.fr, .int .i64 x.to, .int .i64 x.n] t)) := ⟨by simp, by simp, by simp, by simp⟩
theorem BoxS.slots {c : Nat} {x : Sl} {w : World} (h : BoxS c x w) : Slots w (some ⟨c, 0, none⟩) [x] := slots_one h.at0 h.at1 h.at2 h.lt
theorem bPut_bad (size : Int) (x : Sl) (L : List Sl) (a : Option Addr) (n cap : Nat) (w : World) (hn : n = L.length) (hmax : n ≤ 9223372036854775807) (hL : Slots w a L) (hb : slotsE size L ≠ 0) :
    Calls Try.prog 83 #[.int .i64 size, .slice a n cap, .agg #[.int .i64 x.fr, .int .i64 x.to, .int .i64 x.n]] w fun e w' => e = .returned (.tuple #[.slice none 0 0, .int .i64 (slotsE size L)]) ∧ Below w.heap.size w w' := by
  have hB0 : Below w.heap.size w (w.alloc (.cells #[.int .i64 x.fr, .int .i64 x.to, .int .i64 x.n] 130)) := (Below.refl _ _).alloc (Nat.le_refl _) _
  have HB0 := Lib.hid hB0
  have C := Lib.hid (bCheck_any size L a n cap _ hn hmax (hL.below hB0 (Nat.le_refl _)))
  obtain ⟨z, hz⟩ : ∃ z, slotsE size L = z := ⟨_, rfl⟩
  rw [hz] at C hb ⊢
  have hb2 : (z != 0) = true := by simpa using hb
  clear hL hn hz hB0
  go_enter Try.func83, Try.ntmps83
  go_wp2_with (go_at_call 86; refine Calls.mono C.out ?_; rintro e w1 ⟨rfl, h1⟩; have HB := Lib.hid (HB0.out.trans (h1.mono HB0.out.size)); clear h1)
  go_ret2
  exact ⟨rfl, HB.out⟩
set_option maxRecDepth 20000 in
set_option maxHeartbeats 2000000 in
theorem bPut_badx (size : Int) (x : Sl) (L : List Sl) (a : Option Addr) (n cap : Nat) (w : World) (hn : n = L.length) (hmax : n ≤ 9223372036854775807) (hL : Slots w a L) (hb : slotsE size L = 0) (hx : slotsE size [x] ≠ 0) :
    Calls Try.prog 83 #[.int .i64 size, .slice a n cap, .agg #[.int .i64 x.fr, .int .i64 x.to, .int .i64 x.n]] w fun e w' => e = .returned (.tuple #[.slice none 0 0, .int .i64 (slotsE size [x])]) ∧ Below w.heap.size w w' := by
  obtain ⟨W0, hW0⟩ : ∃ W, W = w.alloc (.cells #[.int .i64 x.fr, .int .i64 x.to, .int .i64 x.n] 130) := ⟨_, rfl⟩
  obtain ⟨c, hc⟩ : ∃ c, c = w.heap.size := ⟨_, rfl⟩
  have HX0 : Hid (BoxS c x W0) := Lib.hid (by rw [hW0, hc]; exact BoxS.new x w _)
  have HB0 : Hid (Below w.heap.size w W0) := Lib.hid (by rw [hW0]; exact (Below.refl _ _).alloc (Nat.le_refl _) _)
  have C := Lib.hid (bCheck_any size L a n cap W0 hn hmax (hL.below HB0.out (Nat.le_refl _)))
  rw [hb] at C
  obtain ⟨z, hz⟩ : ∃ z, slotsE size [x] = z := ⟨_, rfl⟩
  have C2 := Lib.hid (fun W b (h : BoxS b x W) => bCheck_any size [x] (some ⟨b, 0, none⟩) 1 1 W rfl (by omega) h.slots)
  rw [hz] at hx ⊢
  simp only [hz] at C2
  have hb2 : (z != 0) = true := by simpa using hx
  clear hL hn hz hb
  go_enter Try.func83, Try.ntmps83
  go_upto_region 1 with fail
  rw [← hW0, ← hc]
  clear hW0 hc
  go_upto_region 4 with (go_at_call 86; refine Calls.mono C.out ?_; rintro e w1 ⟨rfl, h1⟩; have HB1 := Lib.hid (HB0.out.trans (h1.mono HB0.out.size)); have HX1 := Lib.hid (HX0.out.below h1); clear h1)
  have e0 := HX1.out.at0
  have e1 := HX1.out.at1
  have e2 := HX1.out.at2
  have l0 := HX1.out.lt
  go_wp2_with (go_at_call 86; refine Calls.mono (C2.out _ _ (BoxS.new x w1 _)) ?_; rintro e w2 ⟨rfl, h1⟩; have HB2 := Lib.hid ((HB1.out.alloc HB1.out.size _).trans (h1.mono (HB1.out.alloc HB1.out.size _).size)); clear h1)
  go_ret2
  exact ⟨rfl, HB2.out⟩
set_option maxRecDepth 20000 in
set_option maxHeartbeats 2000000 in
theorem bPut_full (size : Int) (x : Sl) (L : List Sl) (a : Option Addr) (n cap : Nat) (w : World) (hn : n = L.length) (hmax : n = 100) (hL : Slots w a L) (hb : slotsE size L = 0) (hx : slotsE size [x] = 0) :
    Calls Try.prog 83 #[.int .i64 size, .slice a n cap, .agg #[.int .i64 x.fr, .int .i64 x.to, .int .i64 x.n]] w fun e w' => e = .returned (.tuple #[.slice none 0 0, .int .i64 7]) ∧ Below w.heap.size w w' := by
  obtain ⟨W0, hW0⟩ : ∃ W, W = w.alloc (.cells #[.int .i64 x.fr, .int .i64 x.to, .int .i64 x.n] 130) := ⟨_, rfl⟩
  obtain ⟨c, hc⟩ : ∃ c, c = w.heap.size := ⟨_, rfl⟩
  have HX0 : Hid (BoxS c x W0) := Lib.hid (by rw [hW0, hc]; exact BoxS.new x w _)
  have HB0 : Hid (Below w.heap.size w W0) := Lib.hid (by rw [hW0]; exact (Below.refl _ _).alloc (Nat.le_refl _) _)
  subst hmax
  have C := Lib.hid (bCheck_any size L a 100 cap W0 hn (by omega) (hL.below HB0.out (Nat.le_refl _)))
  rw [hb] at C
  have C2 := Lib.hid (fun W b (h : BoxS b x W) => bCheck_any size [x] (some ⟨b, 0, none⟩) 1 1 W rfl (by omega) h.slots)
  simp only [hx] at C2
  clear hL hn hb hx
  go_enter Try.func83, Try.ntmps83
  go_upto_region 1 with fail
  rw [← hW0, ← hc]
  clear hW0 hc
  go_upto_region 4 with (go_at_call 86; refine Calls.mono C.out ?_; rintro e w1 ⟨rfl, h1⟩; have HB1 := Lib.hid (HB0.out.trans (h1.mono HB0.out.size)); have HX1 := Lib.hid (HX0.out.below h1); clear h1)
  have e0 := HX1.out.at0
  have e1 := HX1.out.at1
  have e2 := HX1.out.at2
  have l0 := HX1.out.lt
  go_wp2_with (go_at_call 86; refine Calls.mono (C2.out _ _ (BoxS.new x w1 _)) ?_; rintro e w2 ⟨rfl, h1⟩; have HB2 := Lib.hid ((HB1.out.alloc HB1.out.size _).trans (h1.mono (HB1.out.alloc HB1.out.size _).size)); clear h1)
  go_ret2
  exact ⟨rfl, HB2.out⟩
theorem slc_snoc (L : List Sl) (x : Sl) : slc L ++ [.int .i64 x.fr, .int .i64 x.to, .int .i64 x.n] = slc (L ++ [x]) := by rw [slc_append]; rfl
theorem sane_snoc {L : List Sl} {x : Sl} (h1 : Sane L) (h2 : Sane [x]) : Sane (L ++ [x]) := fun s hs => by
  rcases List.mem_append.1 hs with h | h
  · exact h1 s h
  · exact h2 s h
theorem owned_slots {w : World} {H n : Nat} {v : Value} {L : List Sl} (h : w.ownsRow H 130 3 v n (slc L)) : ∃ a c, v = .slice a n c ∧ Vals w a (slc L) := by
  obtain ⟨a, c, e, hv⟩ := IsRow.own (by decide) h
  exact ⟨a, c, e, hv⟩
def PutP (size : Int) (L : List Sl) (x : Sl) (n : Nat) (w : World) (e : Ending) (w' : World) : Prop := ∃ g c z, e = .returned (.tuple #[.slice g (if overB size (L ++ [x]) then 0 else n + 1) c, .int .i64 z]) ∧ z = (if overB size (L ++ [x]) then 10 else 0) ∧ (overB size (L ++ [x]) = false → Vals w' g (slc (L ++ [x]))) ∧ Below w.heap.size w w'
set_option maxRecDepth 20000 in
set_option maxHeartbeats 4000000 in
theorem bPut_end (size : Int) (x : Sl) (L : List Sl) (a : Option Addr) (n cap : Nat) (w : World) (hn : n = L.length) (hmax : n < 100) (hL : Slots w a L) (hb : slotsE size L = 0) (hx : slotsE size [x] = 0) :
    Calls Try.prog 83 #[.int .i64 size, .slice a n cap, .agg #[.int .i64 x.fr, .int .i64 x.to, .int .i64 x.n]] w fun e w' => PutP size L x n w e w' := by
  obtain ⟨g1, g2, g3, g4, _, _⟩ := slotsE_good hb
  obtain ⟨_, _, _, g5, _, _⟩ := slotsE_good hx
  obtain ⟨W0, hW0⟩ : ∃ W, W = w.alloc (.cells #[.int .i64 x.fr, .int .i64 x.to, .int .i64 x.n] 130) := ⟨_, rfl⟩
  obtain ⟨c, hc⟩ : ∃ c, c = w.heap.size := ⟨_, rfl⟩
  have HX0 : Hid (BoxS c x W0) := Lib.hid (by rw [hW0, hc]; exact BoxS.new x w _)
  have HB0 : Hid (Below w.heap.size w W0) := Lib.hid (by rw [hW0]; exact (Below.refl _ _).alloc (Nat.le_refl _) _)
  have C := Lib.hid (bCheck_any size L a n cap W0 hn (by omega) (hL.below HB0.out (Nat.le_refl _)))
  rw [hb] at C
  have C2 := Lib.hid (fun W b (h : BoxS b x W) => bCheck_any size [x] (some ⟨b, 0, none⟩) 1 1 W rfl (by omega) h.slots)
  simp only [hx] at C2
  have HN := Lib.hid hn
  have HL := Lib.hid hL
  have HS := Lib.hid (sane_snoc g4 g5)
  have h100 : ((n : Int) == 100) = false := by simp; omega
  clear hL hn hb hx g3 g4 g5
  go_enter Try.func83, Try.ntmps83
  go_upto_region 1 with fail
  rw [← hW0, ← hc]
  clear hW0 hc
  go_upto_region 4 with (go_at_call 86; refine Calls.mono C.out ?_; rintro e w1 ⟨rfl, h1⟩; have HB1 := Lib.hid (HB0.out.trans (h1.mono HB0.out.size)); have HX1 := Lib.hid (HX0.out.below h1); clear h1)
  have e0 := HX1.out.at0
  have e1 := HX1.out.at1
  have e2 := HX1.out.at2
  have l0 := HX1.out.lt
  go_upto_region 9 with (go_at_call 86; refine Calls.mono (C2.out _ _ (BoxS.new x w1 _)) ?_; rintro e w2 ⟨rfl, h1⟩; have HB2 := Lib.hid ((HB1.out.alloc HB1.out.size _).trans (h1.mono (HB1.out.alloc HB1.out.size _).size)); have HX2 := Lib.hid (HX1.out.below (((Below.refl _ _).alloc (Nat.le_refl _) _).trans (h1.mono (by simp)))); clear h1)
  clear e0 e1 e2 l0
  have HDX : Hid (∀ W, UpB w2 W → W.cell? ⟨c, 0, none⟩ = some (.int .i64 x.fr) ∧ W.cell? ⟨c, 1, none⟩ = some (.int .i64 x.to) ∧ W.cell? ⟨c, 2, none⟩ = some (.int .i64 x.n)) := Lib.hid (fun W h => by
    have := HX2.out.below h.bel
    exact ⟨this.at0, this.at1, this.at2⟩)
  have HCLN : Hid (∀ W, UpB w2 W → Calls Try.prog 91 #[.slice a n cap] W fun e w' => ∃ v, e = .returned v ∧ w'.ownsRow w2.heap.size 130 3 v n (slc L) ∧ Below W.heap.size W w') := Lib.hid (fun W h => (cloneSl_any L a n cap W HN.out (by omega) ((HL.out.below HB2.out (Nat.le_refl _)).below h.bel (Nat.le_refl _))).mono fun e w' h2 => by
    obtain ⟨v, q1, q2, q3⟩ := h2
    exact ⟨v, q1, ownsRow_low q2 h.bel.size, q3⟩)
  have HSN := Lib.hid (slc_snoc L x)
  obtain ⟨ov, hov⟩ : ∃ b, overB size (L ++ [x]) = b := ⟨_, rfl⟩
  have HOV : Hid (∀ W g cp, W.ownsRow w2.heap.size 130 3 (.slice (some ⟨g, 0, none⟩) (n + 1) cp) (n + 1) (slc (L ++ [x])) → Calls Try.prog 163 #[.int .i64 size, .slice (some ⟨g, 0, none⟩) (n + 1) cp] W fun e w' => e = .returned (.bool ov) ∧ Below W.heap.size W w') := Lib.hid (fun W g cp ho => by
    obtain ⟨a', c', e, hv⟩ := owned_slots ho
    have := over_any size (L ++ [x]) (some ⟨g, 0, none⟩) (n + 1) cp W (by simp [HN.out]) (by omega) HS.out (by cases e; exact Slots.of hv) (by omega)
    rw [hov] at this
    exact this)
  have HVV : Hid (∀ W g cp w', W.ownsRow w2.heap.size 130 3 (.slice (some ⟨g, 0, none⟩) (n + 1) cp) (n + 1) (slc (L ++ [x])) → Below W.heap.size W w' → Vals w' (some ⟨g, 0, none⟩) (slc (L ++ [x]))) := Lib.hid (fun W g cp w' ho hb => by
    obtain ⟨a', c', e, hv⟩ := owned_slots ho
    cases e
    exact hv.below hb (Nat.le_refl _))
  have HOVV := Lib.hid hov
  clear hov
  go_region_held3 (fun W => W.cell? ⟨c, 0, none⟩ = some (.int .i64 x.fr) ∧ W.cell? ⟨c, 1, none⟩ = some (.int .i64 x.to) ∧ W.cell? ⟨c, 2, none⟩ = some (.int .i64 x.n))
    (exact HDX.out _ (by repeat (first | exact UpB.refl | exact HU3.out | exact HU4.out | refine UpB.alloc _ ?_ | refine UpB.drew ?_)))
    (first
      | (go_at_call 91; refine Calls.mono (HCLN.out _ (by repeat (first | exact UpB.refl | exact HU3.out | exact HU4.out | refine UpB.alloc _ ?_ | refine UpB.drew ?_))) ?_; rintro e w3 ⟨v3, rfl, ho, hb⟩; have HU3 := Lib.hid (UpB.call (w := w2) (by repeat (first | exact UpB.refl | refine UpB.alloc _ ?_ | refine UpB.drew ?_)) hb); have HO3 := Lib.hid (fun W (h : UpB w3 W) => h.own ho); have HKB := Lib.hid (fun (k : Nat) (o : Obj) h => keepB hb (k := k) (o := o) h); clear ho hb)
      | (refine stepPushN _ (by rfl) (.tmp 28) (.tmp 30) 128 (by rfl) w2.heap.size 130 (.agg #[.int .i64 0, .int .i64 0, .int .i64 0]) 3 24 Try.underlying128 infoSlot (by rfl) (by decide) v3 n (slc L) (by rfl) (HO3.out _ (by repeat (first | exact UpB.refl | refine UpB.alloc _ ?_ | refine UpB.drew ?_))) _ [.int .i64 x.fr, .int .i64 x.to, .int .i64 x.n] rfl rfl (by first | exact heapAtB (by simp) | exact HKB.out _ _ (heapAtB (by simp)) | exact HKB.out _ _ (heap_alloc_new _ _)) (by intro u hu; simp at hu; rcases hu with rfl | rfl | rfl <;> rfl) (by unfold maxLen; omega) (by omega) ((show UpB w2 _ from (by repeat (first | exact UpB.refl | exact HU3.out | exact HU4.out | refine UpB.alloc _ ?_ | refine UpB.drew ?_))).bel.size) ?_; intro g4 cp4 w4 hown4 hgrow4; rw [HSN.out] at hown4; have HU4 := Lib.hid (UpB.base (w := w2) (by repeat (first | exact UpB.refl | exact HU3.out | refine UpB.alloc _ ?_ | refine UpB.drew ?_)) ((Below.refl _ _).grown hgrow4 ((show UpB w2 _ from (by repeat (first | exact UpB.refl | exact HU3.out | refine UpB.alloc _ ?_ | refine UpB.drew ?_))).bel.size) (ownBlock_ge (HO3.out _ (by repeat (first | exact UpB.refl | refine UpB.alloc _ ?_ | refine UpB.drew ?_))) (Nat.le_refl _)))); have HO4 := Lib.hid (fun W (h : UpB w4 W) => h.own hown4); clear hown4 hgrow4))
  all_goals
    have HO5 := Lib.hid (HO4.out _ (by repeat (first | exact UpB.refl | refine UpB.alloc _ ?_ | refine UpB.drew ?_)))
    have HU5 := Lib.hid (show UpB w2 _ from (by repeat (first | exact UpB.refl | exact HU4.out | refine UpB.alloc _ ?_ | refine UpB.drew ?_)))
    cases ov with
    | true =>
      go_wp2_with (go_at_call 163; refine Calls.mono (HOV.out _ _ _ HO5.out) ?_; rintro e w6 ⟨rfl, h1⟩; have HB6 := Lib.hid ((HB2.out.trans (HU4.out.bel.mono HB2.out.size)).trans (h1.mono (HB2.out.trans (HU4.out.bel.mono HB2.out.size)).size)); clear h1)
      go_ret2
      exact ⟨none, 0, 10, by simp [HOVV.out], by simp [HOVV.out], fun h => (by rw [HOVV.out] at h; cases h), HB6.out⟩
    | false =>
      go_wp2_with (go_at_call 163; refine Calls.mono (HOV.out _ _ _ HO5.out) ?_; rintro e w6 ⟨rfl, h1⟩; have HV6 := Lib.hid (HVV.out _ _ _ _ HO5.out h1); have HB6 := Lib.hid ((HB2.out.trans (HU4.out.bel.mono HB2.out.size)).trans (h1.mono (HB2.out.trans (HU4.out.bel.mono HB2.out.size)).size)); clear h1)
      go_ret2
      exact ⟨some ⟨g4, 0, none⟩, cp4, 0, by simp [HOVV.out], by simp [HOVV.out], fun _ => HV6.out, HB6.out⟩
end Go.Proofs.Ytfjoakhcgpckgaa
