/- Contract: what comes behind a thing; the document's (a search through the breadth). -/
import Derived.Test.YtfjoakhcgpckgaaGraphU
import Derived.Test.YtfjoakhcgpckgaaMid
import Derived.Deep.LoopGhost
namespace Go.Proofs.Ytfjoakhcgpckgaa
open Go.ChangeShapes Go.WideShapes Go.ChangeAt Go.RowKit
set_option linter.unusedVariables false
open Gr (El)
def not' (f : Nat → Bool) (i : Nat) : Bool := !f i
def mark (f : Nat → Bool) (j : Nat) (i : Nat) : Bool := f i || decide (i = j)
/-- what holds ahead of a thing's turn -/
structure BInv (L : El) (n s : Nat) (seen : Nat → Bool) (todo : List Nat) : Prop where
  sound : ∀ j, seen j = true → Gr.Reach L s j
  todoOk : ∀ x, x ∈ todo → x < n ∧ (x = s ∨ seen x = true)
  closed : ∀ x, (x = s ∨ seen x = true) → x ∈ todo ∨ ∀ j, Gr.ed L x j → seen j = true
/-- .. within the turn of i, behind k edges -/
structure BInn (L : El) (n s i k : Nat) (seen : Nat → Bool) (todo : List Nat) : Prop where
  sound : ∀ j, seen j = true → Gr.Reach L s j
  todoOk : ∀ x, x ∈ todo → x < n ∧ (x = s ∨ seen x = true)
  closed : ∀ x, (x = s ∨ seen x = true) → x ∈ todo ∨ x = i ∨ ∀ j, Gr.ed L x j → seen j = true
  mine : i = s ∨ seen i = true
  done : ∀ j : Nat, ((i : Int), (j : Int)) ∈ L.take k → seen j = true
theorem BInv.start {L : El} {n s : Nat} (hs : s < n) : BInv L n s (fun _ => false) [s] :=
  ⟨fun j h => (by cases h), fun x hx => (by simp at hx; subst hx; exact ⟨hs, .inl rfl⟩), fun x h => (by
    rcases h with rfl | h
    · exact .inl (by simp)
    · cases h)⟩
theorem BInv.pop {L : El} {n s i : Nat} {seen : Nat → Bool} {todo : List Nat} (h : BInv L n s seen (i :: todo)) : BInn L n s i 0 seen todo :=
  ⟨h.sound, fun x hx => h.todoOk x (List.mem_cons_of_mem _ hx), fun x hx => by
    rcases h.closed x hx with g | g
    · rcases List.mem_cons.1 g with rfl | g
      · exact .inr (.inl rfl)
      · exact .inl g
    · exact .inr (.inr g), (h.todoOk i (by simp)).2, fun j hj => by simp at hj⟩
theorem BInn.skip {L : El} {n s i k : Nat} {seen : Nat → Bool} {todo : List Nat} (h : BInn L n s i k seen todo) {x y : Int} (hx : L[k]? = some (x, y)) (hc : x = (i : Int) → seen y.toNat = true) (hy : 0 ≤ y) : BInn L n s i (k + 1) seen todo :=
  ⟨h.sound, h.todoOk, h.closed, h.mine, fun j hj => by
    rw [List.take_add_one, hx] at hj
    simp only [Option.toList_some, List.mem_append, List.mem_singleton, Prod.mk.injEq] at hj
    rcases hj with hj | ⟨e1, e2⟩
    · exact h.done j hj
    · have := hc e1.symm
      rwa [← e2, Int.toNat_natCast] at this⟩
theorem BInn.put {L : El} {n s i k j : Nat} {seen : Nat → Bool} {todo : List Nat} (h : BInn L n s i k seen todo) (hx : L[k]? = some ((i : Int), (j : Int))) (hj : j < n) : BInn L n s i (k + 1) (mark seen j) (todo ++ [j]) := by
  have hr : Gr.Reach L s j := by
    have he : Gr.ed L i j := List.mem_of_getElem? hx
    rcases h.mine with rfl | hm
    · exact .one he
    · exact (h.sound i hm).trans (.one he)
  refine ⟨fun x hx => ?_, fun x hx => ?_, fun x hx => ?_, ?_, fun x hx' => ?_⟩
  · simp only [mark, Bool.or_eq_true, decide_eq_true_eq] at hx
    rcases hx with hx | rfl
    · exact h.sound x hx
    · exact hr
  · rcases List.mem_append.1 hx with hx | hx
    · obtain ⟨h1, h2⟩ := h.todoOk x hx
      exact ⟨h1, by rcases h2 with h2 | h2; exact .inl h2; exact .inr (by simp [mark, h2])⟩
    · simp at hx
      subst hx
      exact ⟨hj, .inr (by simp [mark])⟩
  · have : (x = s ∨ seen x = true) ∨ x = j := by
      rcases hx with hx | hx
      · exact .inl (.inl hx)
      · simp only [mark, Bool.or_eq_true, decide_eq_true_eq] at hx
        rcases hx with hx | hx
        · exact .inl (.inr hx)
        · exact .inr hx
    rcases this with hx | rfl
    · rcases h.closed x hx with g | g | g
      · exact .inl (List.mem_append_left _ g)
      · exact .inr (.inl g)
      · exact .inr (.inr fun y hy => by simp [mark, g y hy])
    · exact .inl (by simp)
  · rcases h.mine with h1 | h1
    · exact .inl h1
    · exact .inr (by simp [mark, h1])
  · rw [List.take_add_one, hx] at hx'
    simp only [Option.toList_some, List.mem_append, List.mem_singleton, Prod.mk.injEq] at hx'
    rcases hx' with hx' | ⟨_, e⟩
    · simp [mark, h.done x hx']
    · have : x = j := by omega
      simp [mark, this]
theorem BInn.out {L : El} {n s i : Nat} {seen : Nat → Bool} {todo : List Nat} (h : BInn L n s i L.length seen todo) : BInv L n s seen todo :=
  ⟨h.sound, h.todoOk, fun x hx => by
    rcases h.closed x hx with g | g | g
    · exact .inl g
    · subst g
      exact .inr fun j hj => h.done j (by rw [List.take_length]; exact hj)
    · exact .inr g⟩
theorem BInv.fin {L : El} {n s : Nat} {seen : Nat → Bool} (hO : Gr.Ok n L) (hs : s < n) (h : BInv L n s seen []) (j : Nat) : seen j = Gr.rb n L s j := by
  have hcl : ∀ x y, Gr.Reach L x y → (x = s ∨ seen x = true) → seen y = true := fun x y hr => by
    induction hr with
    | one e =>
      intro hx
      rcases h.closed _ hx with g | g
      · cases g
      · exact g _ e
    | more e _ ih =>
      intro hx
      rcases h.closed _ hx with g | g
      · cases g
      · exact ih (.inr (g _ e))
  rw [Bool.eq_iff_iff, Gr.rb_iff hO hs]
  exact ⟨h.sound j, fun hr => hcl s j hr (.inl rfl)⟩
theorem many_mark {seen : Nat → Bool} {n j : Nat} (hj : j < n) (h : seen j = false) : Gr.many (not' seen) n = Gr.many (not' (mark seen j)) n + 1 := by
  rw [Gr.many_drop (f := not' seen) (j := j) (by simp [not', h]) hj]
  congr 2
  funext i
  simp [not', mark]
theorem many_len (f : Nat → Bool) : ∀ n, Gr.many f n ≤ n
  | 0 => Nat.le_refl _
  | n + 1 => by
    have := many_len f n
    show Gr.many f n + _ ≤ _
    split <;> omega
def bools (f : Nat → Bool) (i : Nat) : Value := .bool (f i)
def BehPost (L : El) (n s : Nat) (w : World) (e : Ending) (w' : World) : Prop := e = .returned (.slice (some ⟨w.heap.size, 0, none⟩) n n) ∧ w'.rowIs w.heap.size 4 n (bools (Gr.rb n L s)) ∧ Below w.heap.size w w'
theorem head_nats {w : World} {base : Nat} {e : TypeId} {v : Value} {x : Nat} {xs : List Nat} (h : midRow w base e v (nats (x :: xs))) :
    ∃ g off cap, v = .slice (some ⟨g, off, none⟩) (xs.length + 1) cap ∧ xs.length + 1 ≤ cap ∧ g < w.heap.size ∧ w.cell? ⟨g, off, none⟩ = some (.int .i64 (x : Int)) ∧ midRow w base e (.slice (some (if cap = 1 then ⟨g, off, none⟩ else ⟨g, off + 1, none⟩)) xs.length (cap - 1)) (nats xs) := by
  have := midRow.head (x := nat1 x) (xs := nats xs) h
  rw [nats_length] at this
  exact this
structure BW (n H : Nat) (seen : Nat → Bool) (todo : List Nat) (v : Value) (w wr : World) : Prop where
  row : wr.rowIs H 4 n (bools seen)
  todo : midRow wr (H + 1) 3 v (nats todo)
  below : Below H w wr
theorem BW.step {n H : Nat} {seen : Nat → Bool} {todo : List Nat} {v : Value} {w wr w' : World} (h : BW n H seen todo v w wr) (hb : Below wr.heap.size wr w') : BW n H seen todo v w w' :=
  ⟨rowIs_below h.row hb h.row.lt, h.todo.below hb, h.below.trans (hb.mono (Nat.le_of_lt h.row.lt))⟩
theorem BW.put {n H j : Nat} {seen : Nat → Bool} {todo : List Nat} {v : Value} {w wr : World} (h : BW n H seen todo v w wr) : BW n H (mark seen j) todo v w (wr.setCell ⟨H, j, none⟩ (.bool true)) :=
  ⟨(h.row.set j _).congr fun i hi => by
    unfold bools mark
    by_cases e : i = j
    · simp [e]
    · simp [e], h.todo.setCell (by simp) _, h.below.setCell (Nat.le_refl _) _⟩
theorem BW.push {n H j : Nat} {seen : Nat → Bool} {todo : List Nat} {v v' : Value} {w wr w1 : World} (h : BW n H seen todo v w wr) (hH : H < wr.heap.size) (hm : midRow w1 (H + 1) 3 v' (nats todo ++ [nat1 j])) (hg : wr.grownBy w1 v.ownBlock) : BW n H seen (todo ++ [j]) v' w w1 :=
  ⟨rowIs_grown h.row hg (fun e => by have := (h.todo.ownBlock H e.symm).1; omega), by rw [nats_snoc]; exact hm, h.below.grown hg (by omega) (fun k hk => by have := (h.todo.ownBlock k hk).1; omega)⟩
set_option maxRecDepth 20000 in
set_option maxHeartbeats 4000000 in
theorem beh_any (n s : Nat) (L : El) (a : Option Addr) (l cap : Nat) (w : World) (hn : l = L.length) (hmax : l ≤ 400) (h60 : n ≤ 60) (hs : s < n) (hL : Edges w a L) (hO : Gr.Ok n L) :
    Calls Try.prog 180 #[.int .i64 n, .slice a l cap, .int .i64 s] w (BehPost L n s w) := by
  have HL := Lib.hid hL
  have HN := Lib.hid hn
  have HO := Lib.hid hO
  clear hL hn hO
  have hmk := run_make_row' (P := Try.prog) 161 4 (.bool false) 1 Try.underlying161 infoBool rfl .i64 .i64 n (by omega) (by omega)
  go_enter Try.func180, Try.ntmps180
  go_wp2_with fail
  clear hmk
  have HST : Hid (BW n w.heap.size (fun _ => false) [s] (.slice (some ⟨w.heap.size + 1, 0, none⟩) 1 1) w ((w.alloc (.cells (madeCells #[.bool false] n) 4)).alloc (.cells #[.int .i64 s] 3))) := Lib.hid ⟨((rowIs_made_at w _ _ _ rfl).alloc _).congr fun i hi => rfl, .inr ⟨w.heap.size + 1, 0, 1, #[.int .i64 s], rfl, Nat.le_refl _, by
    have := heap_alloc_new (w.alloc (.cells (madeCells #[.bool false] n) 4)) (.cells #[.int .i64 s] 3)
    simpa using this, by simp [nats], by simp [maxLen], by simp, fun i u hu => by
      have hi0 : i = 0 := by have := (List.getElem?_eq_some_iff.1 hu).1; simp [nats] at this; omega
      subst hi0
      simpa [nats, nat1] using hu⟩, by go_grown⟩
  go_loopg [8] (Gr.many (not' (fun _ => false)) n + 1) (fun k v wr => ∃ seen todo, k ≤ n + 1 ∧ Hid (BInv L n s seen todo) ∧ Hid (BW n w.heap.size seen todo v w wr) ∧ Hid (Gr.many (not' seen) n + todo.length = k))
  case atStart => exact ⟨_, [s], by have := many_len (not' (fun _ => false)) n; omega, Lib.hid (BInv.start hs), HST, Lib.hid rfl⟩
  case round =>
    clear HST
    obtain ⟨seen, todo, hgk, HI, HW, HK⟩ := hrel
    cases todo with
    | nil =>
      have hv := HW.out.todo
      rcases hv with ⟨hv, _⟩ | ⟨g, off, cap', cur, hv, h2, h3, h4⟩
      · subst hv
        go_wp2_with fail
        go_ret
        exact ⟨rfl, HW.out.row.congr fun j hj => by unfold bools; rw [HI.out.fin HO.out hs j], HW.out.below⟩
      · subst hv
        clear h2 h3 h4
        simp only [nats, List.map_nil, List.length_nil] at *
        go_wp2_with fail
        go_ret
        exact ⟨rfl, HW.out.row.congr fun j hj => by unfold bools; rw [HI.out.fin HO.out hs j], HW.out.below⟩
    | cons i todo =>
      obtain ⟨g, off, cap', hv, hcap, hgl, hcell, hmid⟩ := head_nats HW.out.todo
      subst hv
      obtain ⟨hin, hmine⟩ := HI.out.todoOk i (by simp)
      have HW2 : Hid (∀ v', v' = Value.slice (some (if cap' = 1 then ⟨g, off, none⟩ else ⟨g, off + 1, none⟩)) todo.length (cap' - 1) → BW n w.heap.size seen todo v' w wr) := Lib.hid fun v' hv' => by rw [hv']; exact ⟨HW.out.row, hmid, HW.out.below⟩
      have HI2 := Lib.hid HI.out.pop
      have HK2 : Hid (Gr.many (not' seen) n + todo.length + 1 = gk) := Lib.hid (by have := HK.out; simp only [List.length_cons] at this; omega)
      have hcm : cap' ≤ 9223372036854775807 := by
        have hv := HW.out.todo
        rcases hv with ⟨hv, _⟩ | ⟨g', off', cap'', cur, hv, _, _, _, h5, _⟩
        · cases hv
        · simp only [Value.slice.injEq] at hv
          obtain ⟨_, _, rfl⟩ := hv
          unfold maxLen at h5; omega
      clear hmid hmine HW HI HK
      obtain ⟨gq, rfl⟩ : ∃ q, q = gk := ⟨_, rfl⟩
      by_cases hc1 : cap' = 1
      · subst hc1
        have ht0 : todo.length ≤ 0 := by omega
        have HW4 : Hid (BW n w.heap.size seen todo (.slice (some ⟨g, off, none⟩) 0 0) w wr) := Lib.hid (HW2.out _ (by rw [show todo.length = 0 from by omega]; rfl))
        clear HW2
        go_wp2_with fail
        go_loopg [8, 26] l (fun q v x wx => ∃ (k : Nat) (seen' : Nat → Bool) (todo' : List Nat), k ≤ l ∧ q + k = l ∧ x = .int .i64 k ∧ Hid (BInn L n s i k seen' todo') ∧ Hid (BW n w.heap.size seen' todo' v w wx) ∧ Hid (Gr.many (not' seen') n + todo'.length + 1 = gq))
        case atStart => exact ⟨0, seen, todo, by omega, by omega, rfl, HI2, HW4, HK2⟩
        case round =>
          clear HI2 HW4 HK2 hcell
          obtain ⟨k, seen', todo', hk, hq, rfl, HI, HW, HK⟩ := hrel
          by_cases hkl : k < l
          · obtain ⟨b, o, rfl, hb, hat⟩ := HL.out (by have := HN.out; omega)
            obtain ⟨⟨x, y⟩, hx⟩ : ∃ x, L[k]? = some x := ⟨_, List.getElem?_eq_getElem (by have := HN.out; omega)⟩
            obtain ⟨q0, q1⟩ := hat.below HW.out.below hb k x y hx
            obtain ⟨o1, o2, o3, o4⟩ := HO.out _ (List.mem_of_getElem? hx)
            simp only at o1 o2 o3 o4
            have HX := Lib.hid hx
            have hsz := HW.out.below.size
            have hbr : b < wr.heap.size := by omega
            have hHs := HW.out.row.lt
            obtain ⟨j, rfl⟩ := Int.eq_ofNat_of_zero_le o3
            have hj : j < n := by omega
            have c0 := HW.out.row.cell hj
            have c1 := HW.out.row.frozen j
            unfold bools at c0
            have hlen : todo'.length ≤ 61 := by have := HK.out; omega
            clear hat hx
            by_cases hxi : x = (i : Int)
            · have hxb : (x == (i : Int)) = true := by simp [hxi]
              cases hsj : seen' j with
              | true =>
                have HI3 := Lib.hid (HI.out.skip HX.out (fun _ => by rw [Int.toNat_natCast]; exact hsj) o3)
                rw [hsj] at c0
                have HW5 := Lib.hid (HW.out.step ((Below.refl wr.heap.size wr).alloc (Nat.le_refl _) (.cells #[.int .i64 x, .int .i64 j] 66)))
                clear hsj hxi
                go_wp2_with fail
                go_roundg (l - (k + 1))
                case measure => omega
                case rel => exact ⟨k + 1, seen', todo', by omega, by omega, rfl, HI3, HW5, HK⟩
              | false =>
                have HI3 := Lib.hid (HI.out.put (by rw [HX.out, hxi]) hj)
                have HK3 : Hid (Gr.many (not' (mark seen' j)) n + (todo' ++ [j]).length + 1 = gq) := Lib.hid (by have h1 := many_mark hj hsj; have h2 := HK.out; simp only [List.length_append, List.length_singleton]; omega)
                rw [hsj] at c0
                have HW5 := Lib.hid ((HW.out.put (j := j)).step ((Below.refl _ _).alloc (Nat.le_refl _) (.cells #[.int .i64 x, .int .i64 j] 66)))
                clear hsj hxi
                go_wp2_with ((at_builtin; refine wpList_push_mid _ (by rfl) _ _ 58 (by rfl) (w.heap.size + 1) 3 (.int .i64 0) 8 Try.underlying58 infoInt (by rfl) u8 (nats todo') (nat1 j) (wr.heap.size + 1) (by simp) (by rfl) HW5.out.todo (by rfl) (by rfl) (by rw [nats_length]; unfold maxLen; omega) (by rw [nats_length]; omega) (by simp; omega) ?_; intro g2 off2 cap2 w2 hm2 hg2; have hw6 := HW5.out.push (by simp; omega) hm2 hg2; rw [nats_length] at hw6 ⊢; have HW6 := Lib.hid hw6; clear hm2 hg2 hw6))
                go_roundg (l - (k + 1))
                case measure => omega
                case rel => exact ⟨k + 1, mark seen' j, todo' ++ [j], by omega, by omega, rfl, HI3, HW6, HK3⟩
            · have hxb : (x == (i : Int)) = false := by simp [hxi]
              have HI3 := Lib.hid (HI.out.skip HX.out (fun h => absurd h hxi) o3)
              have HW5 := Lib.hid (HW.out.step ((Below.refl wr.heap.size wr).alloc (Nat.le_refl _) (.cells #[.int .i64 x, .int .i64 j] 66)))
              clear hxi
              go_wp2_with fail
              go_roundg (l - (k + 1))
              case measure => omega
              case rel => exact ⟨k + 1, seen', todo', by omega, by omega, rfl, HI3, HW5, HK⟩
          · have HI3 := Lib.hid (BInn.out (HN.out ▸ (show k = l by omega) ▸ HI.out))
            go_wp2_with fail
            go_roundg (gq - 1)
            case measure => have := HK.out; omega
            case rel => exact ⟨seen', todo', by omega, HI3, HW, Lib.hid (by have := HK.out; omega)⟩
      · have hc2 : 2 ≤ cap' := by omega
        have HW4 : Hid (BW n w.heap.size seen todo (.slice (some ⟨g, off + 1, none⟩) todo.length (cap' - 1)) w wr) := Lib.hid (HW2.out _ (by rw [if_neg hc1]))
        have HC1 := Lib.hid hc1
        clear hc1
        clear HW2
        go_wp2_with fail
        go_loopg [8, 26] l (fun q v x wx => ∃ (k : Nat) (seen' : Nat → Bool) (todo' : List Nat), k ≤ l ∧ q + k = l ∧ x = .int .i64 k ∧ Hid (BInn L n s i k seen' todo') ∧ Hid (BW n w.heap.size seen' todo' v w wx) ∧ Hid (Gr.many (not' seen') n + todo'.length + 1 = gq))
        case atStart => exact ⟨0, seen, todo, by omega, by omega, rfl, HI2, HW4, HK2⟩
        case round =>
          clear HI2 HW4 HK2 hcell
          obtain ⟨k, seen', todo', hk, hq, rfl, HI, HW, HK⟩ := hrel
          by_cases hkl : k < l
          · obtain ⟨b, o, rfl, hb, hat⟩ := HL.out (by have := HN.out; omega)
            obtain ⟨⟨x, y⟩, hx⟩ : ∃ x, L[k]? = some x := ⟨_, List.getElem?_eq_getElem (by have := HN.out; omega)⟩
            obtain ⟨q0, q1⟩ := hat.below HW.out.below hb k x y hx
            obtain ⟨o1, o2, o3, o4⟩ := HO.out _ (List.mem_of_getElem? hx)
            simp only at o1 o2 o3 o4
            have HX := Lib.hid hx
            have hsz := HW.out.below.size
            have hbr : b < wr.heap.size := by omega
            have hHs := HW.out.row.lt
            obtain ⟨j, rfl⟩ := Int.eq_ofNat_of_zero_le o3
            have hj : j < n := by omega
            have c0 := HW.out.row.cell hj
            have c1 := HW.out.row.frozen j
            unfold bools at c0
            have hlen : todo'.length ≤ 61 := by have := HK.out; omega
            clear hat hx
            by_cases hxi : x = (i : Int)
            · have hxb : (x == (i : Int)) = true := by simp [hxi]
              cases hsj : seen' j with
              | true =>
                have HI3 := Lib.hid (HI.out.skip HX.out (fun _ => by rw [Int.toNat_natCast]; exact hsj) o3)
                rw [hsj] at c0
                have HW5 := Lib.hid (HW.out.step ((Below.refl wr.heap.size wr).alloc (Nat.le_refl _) (.cells #[.int .i64 x, .int .i64 j] 66)))
                clear hsj hxi
                go_wp2_with fail
                go_roundg (l - (k + 1))
                case measure => omega
                case rel => exact ⟨k + 1, seen', todo', by omega, by omega, rfl, HI3, HW5, HK⟩
              | false =>
                have HI3 := Lib.hid (HI.out.put (by rw [HX.out, hxi]) hj)
                have HK3 : Hid (Gr.many (not' (mark seen' j)) n + (todo' ++ [j]).length + 1 = gq) := Lib.hid (by have h1 := many_mark hj hsj; have h2 := HK.out; simp only [List.length_append, List.length_singleton]; omega)
                rw [hsj] at c0
                have HW5 := Lib.hid ((HW.out.put (j := j)).step ((Below.refl _ _).alloc (Nat.le_refl _) (.cells #[.int .i64 x, .int .i64 j] 66)))
                clear hsj hxi
                go_wp2_with ((at_builtin; refine wpList_push_mid _ (by rfl) _ _ 58 (by rfl) (w.heap.size + 1) 3 (.int .i64 0) 8 Try.underlying58 infoInt (by rfl) u8 (nats todo') (nat1 j) (wr.heap.size + 1) (by simp) (by rfl) HW5.out.todo (by rfl) (by rfl) (by rw [nats_length]; unfold maxLen; omega) (by rw [nats_length]; omega) (by simp; omega) ?_; intro g2 off2 cap2 w2 hm2 hg2; have hw6 := HW5.out.push (by simp; omega) hm2 hg2; rw [nats_length] at hw6 ⊢; have HW6 := Lib.hid hw6; clear hm2 hg2 hw6))
                go_roundg (l - (k + 1))
                case measure => omega
                case rel => exact ⟨k + 1, mark seen' j, todo' ++ [j], by omega, by omega, rfl, HI3, HW6, HK3⟩
            · have hxb : (x == (i : Int)) = false := by simp [hxi]
              have HI3 := Lib.hid (HI.out.skip HX.out (fun h => absurd h hxi) o3)
              have HW5 := Lib.hid (HW.out.step ((Below.refl wr.heap.size wr).alloc (Nat.le_refl _) (.cells #[.int .i64 x, .int .i64 j] 66)))
              clear hxi
              go_wp2_with fail
              go_roundg (l - (k + 1))
              case measure => omega
              case rel => exact ⟨k + 1, seen', todo', by omega, by omega, rfl, HI3, HW5, HK⟩
          · have HI3 := Lib.hid (BInn.out (HN.out ▸ (show k = l by omega) ▸ HI.out))
            go_wp2_with fail
            go_roundg (gq - 1)
            case measure => have := HK.out; omega
            case rel => exact ⟨seen', todo', by omega, HI3, HW, Lib.hid (by have := HK.out; omega)⟩
end Go.Proofs.Ytfjoakhcgpckgaa
