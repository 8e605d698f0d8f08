/- JournalPlays: the law's walk. -/
import Derived.Test.YtdbipmidjdhjpaaTwo
import Derived.Deep.RegionHeld3
import Derived.Deep.DeepCutAuto
namespace Go.Proofs.Ytdbipmidjdhjpaa
open Go.ChangeShapes Go.WideShapes Go.ChangeAt Go.RowKit
set_option linter.unusedVariables false

theorem journal_long (w : World) (a : Option Addr) (n c : Nat) (hn : 60 < n) (hm : n ≤ 9223372036854775807) :
    Calls Try.prog 4 #[.slice a n c] w fun e w' => e = .returned (.bool true) ∧ Below w.heap.size w w' := by
  go_enter Try.func4, Try.ntmps4
  go_wp2
  go_ret
  exact ⟨rfl, Below.refl _ _⟩

/-- the deeds, as they lie: of each its kind, what it keeps, its bytes' slice, and fifteen cells more -/
def DeedsAt (w : World) (b off n : Nat) : Prop := ∀ k, k < n → ∃ (kd kp : Int) (a : Option Addr) (c : Nat) (xs : List Int) (rest : List Value),
  w.rangeAt b (off + k * 18) (.int .i64 kd :: .int .i64 kp :: .slice a xs.length c :: rest) ∧ rest.length = 15 ∧ (∀ v ∈ rest, v.oneCell' = true) ∧
    Src w 1 (.slice a xs.length c) xs.length (xs.map (.int .u8)) ∧ xs.length ≤ 140737488351232
theorem Try.info44 : (Try.prog.info? 44).map (·.size) = some 18 := by kernel_rfl

theorem pair_start (w : World) : Pair w ((w.alloc (.cells #[.slice none 0 0, .int .i64 0] 109)).alloc (.cells #[.slice none 0 0, .int .i64 0] 33)) [] 0 [] 0 := by
  have e1 : ∀ i, ((w.alloc (.cells #[.slice none 0 0, .int .i64 0] 109)).alloc (.cells #[.slice none 0 0, .int .i64 0] 33)).cell? ⟨w.heap.size, i, none⟩ = (#[Value.slice none 0 0, .int .i64 0] : Array Value)[i]? := fun i => by
    rw [World.cell?_alloc_past _ _ _ (by simp), World.cell?_alloc_new]
  have e2 : ∀ i, ((w.alloc (.cells #[.slice none 0 0, .int .i64 0] 109)).alloc (.cells #[.slice none 0 0, .int .i64 0] 33)).cell? ⟨w.heap.size + 1, i, none⟩ = (#[Value.slice none 0 0, .int .i64 0] : Array Value)[i]? := fun i =>
    World.cell?_alloc_at _ _ _ _ (by simp)
  have g : ∀ b i, ((w.alloc (.cells #[.slice none 0 0, .int .i64 0] 109)).alloc (.cells #[.slice none 0 0, .int .i64 0] 33)).frozen? ⟨b, i, none⟩ = w.frozen? ⟨b, i, none⟩ := fun b i => by
    rw [frozen?_alloc_cells, frozen?_alloc_cells]
  have h : ∀ b i, w.heap.size ≤ b → w.frozen? ⟨b, i, none⟩ = false := fun b i hb => by
    simp [World.frozen?, Array.getElem?_eq_none hb]
  refine ⟨.slice none 0 0, .slice none 0 0, ⟨e1 0, e1 1, (g _ _).trans (h _ _ (Nat.le_refl _)), (g _ _).trans (h _ _ (Nat.le_refl _)), World.ownsRow_nil _ _ _ _, by simp, by simp⟩, ⟨e2 0, e2 1, (g _ _).trans (h _ _ (by omega)), (g _ _).trans (h _ _ (by omega)), World.ownsRow_nil _ _ _ _, by simp, by simp⟩, .inl rfl, by simp, ?_⟩
  exact ((Below.refl _ _).alloc (Nat.le_refl _) _).alloc (by simp) _

theorem journal_nil (w : World) (a : Option Addr) (c : Nat) : Calls Try.prog 4 #[.slice a 0 c] w fun e w' => e = .returned (.bool true) ∧ Below w.heap.size w w' := by
  go_enter Try.func4, Try.ntmps4
  go_wp2_with (go_at_call 10; refine (new_any _).mono ?_; rintro e w1 ⟨rfl, rfl⟩)
  go_rounds 1
  go_ret
  exact ⟨rfl, by go_grown⟩

set_option maxHeartbeats 4000000 in
set_option maxRecDepth 100000 in
theorem journal_short (w : World) (b off n c : Nat) (hn : n ≤ 60) (hdeeds : DeedsAt w b off n) :
    Calls Try.prog 4 #[.slice (some ⟨b, off, none⟩) n c] w fun e w' => e = .returned (.bool true) ∧ Below w.heap.size w w' := by
  go_enter Try.func4, Try.ntmps4
  go_wp2_with (go_at_call 10; refine (new_any _).mono ?_; rintro e w1 ⟨rfl, rfl⟩)
  go_loopw [15] (fun i wr => ∃ k L s, k ≤ n ∧ i = .int .i64 (k : Nat) ∧ Pair w wr L s L s) (fun i _ => n - (intOf i).toNat)
  case atStart => exact ⟨0, [], 0, by omega, rfl, pair_start w⟩
  case round =>
    obtain ⟨k, L, s, hk, rfl, hpair⟩ := hrel
    have HP := Lib.hid hpair
    obtain ⟨_, _, _, _, _, hsz, hB⟩ := hpair
    by_cases hlt : k < n
    · obtain ⟨kd, kp, a, c, xs, rest, hrange, hlen, hone, hsrc, hxs⟩ := hdeeds k hlt
      have HR : Hid (wr.rangeAt b (off + k * 18) (.int .i64 kd :: .int .i64 kp :: .slice a xs.length c :: rest)) := Lib.hid fun j v hv => (hB.cell (p := ⟨b, off + k * 18 + j, none⟩) (World.block_lt_of_cell? _ _ (hrange j v hv))).trans (hrange j v hv)
      have HL := Lib.hid hlen
      have HO := Lib.hid hone
      have HS := Lib.hid hsrc
      have HONE : Hid ((Value.int .i64 kd :: .int .i64 kp :: .slice a xs.length c :: rest).toArray.all (·.oneCell') = true) := by
        apply Lib.hid
        apply all_oneCell_toArray
        intro v hv
        simp only [List.mem_cons] at hv
        rcases hv with rfl | rfl | rfl | hv
        · rfl
        · rfl
        · rfl
        · exact hone v hv
      clear hrange hlen hone hsrc
      go_wp2_with (first
        | (with_reducible refine wpList_load_mid rfl 44 (.tmp 17) rfl b (off + k * 18) rfl _ _ HR.out Try.underlying44 rfl (by rw [Try.info44]; simp [HL.out]) ?_)
        | (with_reducible refine wpList_store_new rfl 44 (.tmp 6) (.tmp 18) rfl _ _ rfl rfl rfl (by rw [Try.info44]; simp [HL.out]) (by simp [HL.out]) HONE.out ?_)
        )
      · have hp0 : Pair w (wr.alloc (.cells (Value.int .i64 kd :: .int .i64 kp :: .slice a xs.length c :: rest).toArray 44)) L s L s := HP.out.grown ((Below.refl _ _).alloc (Nat.le_refl _) _)
        have hb0 : (wr.alloc (.cells (Value.int .i64 kd :: .int .i64 kp :: .slice a xs.length c :: rest).toArray 44)).heap[wr.heap.size]? = some (.cells (Value.int .i64 kd :: .int .i64 kp :: .slice a xs.length c :: rest).toArray 44 (0, 0)) := heap_alloc_last _ _
        generalize wr.alloc (.cells (Value.int .i64 kd :: .int .i64 kp :: .slice a xs.length c :: rest).toArray 44) = w2 at *
        have q0 : w2.cell? ⟨wr.heap.size, 2, none⟩ = some (.slice a xs.length c) := keeps_cell hb0 2 rfl
        go_region_held3 (fun w' => w'.cell? ⟨wr.heap.size, 2, none⟩ = some (.slice a xs.length c)) (first | exact q0 | exact keeps_cell hb11 2 rfl | exact keeps_cell hb12 2 rfl)
          (first
            | (go_at_call 11; refine (two_write (A := wr.heap.size) a c xs HS.out hxs hsz (by first | exact hp0.drew | exact hp12) (by first | exact hb0 | exact hb12)).mono ?_; rintro e w3 ⟨rfl, hp11, hb11⟩)
            | (go_at_call 12; refine (two_writeR (A := wr.heap.size) a c xs HS.out hxs hsz (by first | exact hp0.drew | exact hp11) (by first | exact hb0 | exact hb11)).mono ?_; rintro e w4 ⟨rfl, hp12, hb12⟩))
        go_wp2_with fail
        obtain ⟨a', c', hc', hin'⟩ := pair_ref hp12
        go_region_held3 (fun w' => w'.cell? ⟨w.heap.size + 1, 0, none⟩ = some (.slice a' (wlist L xs).length c')) (first | exact hc' | exact hc17) (first | (go_at_call 17; refine (two_bytes (W := w) hp12.drew hc' hin').mono ?_; rintro e w5 ⟨a5, c5, rfl, hin5, hp5, hc17, hin17⟩) | (go_at_call 16; refine (two_equal _ _ _ _ hin5 hin17).mono ?_; rintro e w6 ⟨rfl, rfl⟩))
        go_wp2
        go_roundw
        case rel => exact ⟨k + 1, _, _, by omega, by go_num, hp5⟩
        case measure => simp [intOf]; omega
      · have hp0 : Pair w (wr.alloc (.cells (Value.int .i64 kd :: .int .i64 kp :: .slice a xs.length c :: rest).toArray 44)) L s L s := HP.out.grown ((Below.refl _ _).alloc (Nat.le_refl _) _)
        have hb0 : (wr.alloc (.cells (Value.int .i64 kd :: .int .i64 kp :: .slice a xs.length c :: rest).toArray 44)).heap[wr.heap.size]? = some (.cells (Value.int .i64 kd :: .int .i64 kp :: .slice a xs.length c :: rest).toArray 44 (0, 0)) := heap_alloc_last _ _
        generalize wr.alloc (.cells (Value.int .i64 kd :: .int .i64 kp :: .slice a xs.length c :: rest).toArray 44) = w2 at *
        refine (pair_sync hp0).mono ?_
        rintro e w3 ⟨rfl, hp3, hk3⟩
        obtain ⟨a3, c3, h30, h31, h3f, hL3⟩ := pair_refcells hp3
        go_wp2_with fail
        have hp12 := (pair_syncR hp3).1
        clear h30 h31 h3f
        generalize w3.setCell ⟨w.heap.size + 1, 1, none⟩ (.int .i64 L.length) = w4 at *
        obtain ⟨a', c', hc', hin'⟩ := pair_ref hp12
        go_region_held3 (fun w' => w'.cell? ⟨w.heap.size + 1, 0, none⟩ = some (.slice a' L.length c')) (first | exact hc' | exact hc17) (first | (go_at_call 17; refine (two_bytes (W := w) hp12.drew hc' hin').mono ?_; rintro e w5 ⟨a5, c5, rfl, hin5, hp5, hc17, hin17⟩) | (go_at_call 16; refine (two_equal _ _ _ _ hin5 hin17).mono ?_; rintro e w6 ⟨rfl, rfl⟩))
        go_wp2
        go_roundw
        case rel => exact ⟨k + 1, _, _, by omega, by go_num, hp5⟩
        case measure => simp [intOf]; omega
      · have hp0 : Pair w (wr.alloc (.cells (Value.int .i64 kd :: .int .i64 kp :: .slice a xs.length c :: rest).toArray 44)) L s L s := HP.out.grown ((Below.refl _ _).alloc (Nat.le_refl _) _)
        have hb0 : (wr.alloc (.cells (Value.int .i64 kd :: .int .i64 kp :: .slice a xs.length c :: rest).toArray 44)).heap[wr.heap.size]? = some (.cells (Value.int .i64 kd :: .int .i64 kp :: .slice a xs.length c :: rest).toArray 44 (0, 0)) := heap_alloc_last _ _
        generalize wr.alloc (.cells (Value.int .i64 kd :: .int .i64 kp :: .slice a xs.length c :: rest).toArray 44) = w2 at *
        have q0 : w2.cell? ⟨wr.heap.size, 1, none⟩ = some (.int .i64 kp) := keeps_cell hb0 1 rfl
        go_region_held3 (fun w' => w'.cell? ⟨wr.heap.size, 1, none⟩ = some (.int .i64 kp)) (first | exact q0 | exact keeps_cell hb11 1 rfl | exact keeps_cell hb12 1 rfl)
          (first
            | (go_at_call 14; refine (two_crash (A := wr.heap.size) kp hsz (by first | exact hp0.drew | exact hp12) (by first | exact hb0 | exact hb12)).mono ?_; rintro e w3 ⟨rfl, hp11, hb11⟩)
            | (go_at_call 15; refine (two_crashR (A := wr.heap.size) kp hsz (by first | exact hp0.drew | exact hp11) (by first | exact hb0 | exact hb11)).mono ?_; rintro e w4 ⟨rfl, hp12, hb12⟩))
        go_wp2_with fail
        obtain ⟨a', c', hc', hin'⟩ := pair_ref hp12
        go_region_held3 (fun w' => w'.cell? ⟨w.heap.size + 1, 0, none⟩ = some (.slice a' (clist L s kp).length c')) (first | exact hc' | exact hc17) (first | (go_at_call 17; refine (two_bytes (W := w) hp12.drew hc' hin').mono ?_; rintro e w5 ⟨a5, c5, rfl, hin5, hp5, hc17, hin17⟩) | (go_at_call 16; refine (two_equal _ _ _ _ hin5 hin17).mono ?_; rintro e w6 ⟨rfl, rfl⟩))
        go_wp2
        go_roundw
        case rel => exact ⟨k + 1, _, _, by omega, by go_num, hp5⟩
        case measure => simp [intOf]; omega
    · go_wp2
      go_ret
      exact ⟨rfl, hB⟩
end Go.Proofs.Ytdbipmidjdhjpaa
