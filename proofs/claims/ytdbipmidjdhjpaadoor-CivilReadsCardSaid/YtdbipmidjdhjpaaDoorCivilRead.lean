/- Contracts: a day read from a text; the program's and the document's. -/
import Derived.Test.YtdbipmidjdhjpaaDoorCivilText
import Derived.Laws.IdiomStrings
namespace Go.Proofs.YtdbipmidjdhjpaaDoor
open Go.ChangeShapes Go.WideShapes Go.ChangeAt Go.RowKit Civ
set_option linter.unusedVariables false

/-- the byte at a place, as a number -/
def byt (s : ByteArray) (i : Nat) : Int := ((s.data[i]?.getD 0).toNat : Int)
theorem byt_bd (s : ByteArray) (i : Nat) : 0 ≤ byt s i ∧ byt s i ≤ 255 := by
  unfold byt
  have := (s.data[i]?.getD 0).toNat_lt
  omega
theorem byt_at (s : ByteArray) (i : Nat) (h : i < s.size) : ((s[i]'h).toNat : Int) = byt s i := by
  unfold byt
  have h' : i < s.data.size := h
  simp [Array.getElem?_eq_getElem h']
  rfl
/-- the number that so many digits from a place on write -/
def num (s : ByteArray) (lo : Nat) : Nat → Int
  | 0 => 0
  | j + 1 => 10 * num s lo j + (byt s (lo + j) - 48)
def OkAt (s : ByteArray) (i : Nat) : Prop := if i = 4 ∨ i = 7 then byt s i = 45 else 48 ≤ byt s i ∧ byt s i ≤ 57
instance (s : ByteArray) (i : Nat) : Decidable (OkAt s i) := by unfold OkAt; infer_instance
def Upto (s : ByteArray) (i : Nat) : Prop := ∀ j, j < i → OkAt s j
theorem Upto.zero (s : ByteArray) : Upto s 0 := fun j h => absurd h (by omega)
theorem Upto.succ {s : ByteArray} {i : Nat} (h : Upto s i) (ho : OkAt s i) : Upto s (i + 1) := fun j hj => by
  by_cases e : j = i
  · subst e; exact ho
  · exact h j (by omega)
theorem Upto.dig {s : ByteArray} {i : Nat} (h : Upto s i) {j : Nat} (hj : j < i) (h4 : j ≠ 4) (h7 : j ≠ 7) : 48 ≤ byt s j ∧ byt s j ≤ 57 := by
  have := h j hj
  unfold OkAt at this
  rwa [if_neg (by omega)] at this
theorem num_bd {s : ByteArray} {lo : Nat} : ∀ (k : Nat), (∀ j, j < k → 48 ≤ byt s (lo + j) ∧ byt s (lo + j) ≤ 57) → 0 ≤ num s lo k ∧ num s lo k < 10 ^ k
  | 0, _ => by simp [num]
  | k + 1, h => by
    have ih := num_bd k (fun j hj => h j (by omega))
    have := h k (by omega)
    have e : (10 : Int) ^ (k + 1) = 10 * 10 ^ k := by rw [Int.pow_succ]; omega
    simp only [num]
    rw [e]
    omega
/-- the three numbers ahead of a place -/
def Par (s : ByteArray) (i : Nat) (a b c : Int) : Prop := a = num s 0 (min i 4) ∧ b = num s 5 (min (i - 5) 2) ∧ c = num s 8 (i - 8)
theorem Par.zero (s : ByteArray) : Par s 0 0 0 0 := ⟨rfl, rfl, rfl⟩
theorem Par.a {s : ByteArray} {i : Nat} {a b c : Int} (h : Par s i a b c) (hi : i < 4) : Par s (i + 1) (10 * a + (byt s i - 48)) b c := by
  obtain ⟨rfl, rfl, rfl⟩ := h
  refine ⟨?_, ?_, ?_⟩
  · rw [show min (i + 1) 4 = i + 1 from by omega, show min i 4 = i from by omega]; simp only [num, Nat.zero_add]
  · rw [show min (i + 1 - 5) 2 = 0 from by omega, show min (i - 5) 2 = 0 from by omega]
  · rw [show i + 1 - 8 = 0 from by omega, show i - 8 = 0 from by omega]
theorem Par.b {s : ByteArray} {i : Nat} {a b c : Int} (h : Par s i a b c) (h1 : 4 < i) (h2 : i < 7) : Par s (i + 1) a (10 * b + (byt s i - 48)) c := by
  obtain ⟨rfl, rfl, rfl⟩ := h
  refine ⟨?_, ?_, ?_⟩
  · rw [show min (i + 1) 4 = 4 from by omega, show min i 4 = 4 from by omega]
  · rw [show min (i + 1 - 5) 2 = (i - 5) + 1 from by omega, show min (i - 5) 2 = i - 5 from by omega]; simp only [num]; rw [show 5 + (i - 5) = i from by omega]
  · rw [show i + 1 - 8 = 0 from by omega, show i - 8 = 0 from by omega]
theorem Par.c {s : ByteArray} {i : Nat} {a b c : Int} (h : Par s i a b c) (h1 : 7 < i) : Par s (i + 1) a b (10 * c + (byt s i - 48)) := by
  obtain ⟨rfl, rfl, rfl⟩ := h
  refine ⟨?_, ?_, ?_⟩
  · rw [show min (i + 1) 4 = 4 from by omega, show min i 4 = 4 from by omega]
  · rw [show min (i + 1 - 5) 2 = 2 from by omega, show min (i - 5) 2 = 2 from by omega]
  · rw [show i + 1 - 8 = (i - 8) + 1 from by omega]; simp only [num]; rw [show 8 + (i - 8) = i from by omega]
theorem Par.dash {s : ByteArray} {i : Nat} {a b c : Int} (h : Par s i a b c) (h1 : i = 4 ∨ i = 7) : Par s (i + 1) a b c := by
  obtain ⟨rfl, rfl, rfl⟩ := h
  rcases h1 with rfl | rfl <;> exact ⟨rfl, rfl, rfl⟩
theorem Par.bd {s : ByteArray} {i : Nat} {a b c : Int} (h : Par s i a b c) (hu : Upto s i) (hi : i ≤ 10) : (i < 4 → 0 ≤ a ∧ a ≤ 999) ∧ (4 < i → i < 7 → 0 ≤ b ∧ b ≤ 9) ∧ (7 < i → i < 10 → 0 ≤ c ∧ c ≤ 9) := by
  obtain ⟨rfl, rfl, rfl⟩ := h
  refine ⟨fun h => ?_, fun h1 h2 => ?_, fun h1 h2 => ?_⟩
  · have q := num_bd (s := s) (lo := 0) i (fun j hj => by rw [Nat.zero_add]; exact hu.dig hj (by omega) (by omega))
    rw [show min i 4 = i from by omega]
    have : i = 0 ∨ i = 1 ∨ i = 2 ∨ i = 3 := by omega
    rcases this with rfl | rfl | rfl | rfl <;> omega
  · have q := num_bd (s := s) (lo := 5) (i - 5) (fun j hj => hu.dig (by omega) (by omega) (by omega))
    rw [show min (i - 5) 2 = i - 5 from by omega]
    have : i = 5 ∨ i = 6 := by omega
    rcases this with rfl | rfl <;> omega
  · have q := num_bd (s := s) (lo := 8) (i - 8) (fun j hj => hu.dig (by omega) (by omega) (by omega))
    have : i = 8 ∨ i = 9 := by omega
    rcases this with rfl | rfl <;> omega
def goodT (s : ByteArray) : Prop := s.size = 10 ∧ Upto s 10
open Classical in
/-- what reading a text tells: the day, and what is wrong -/
noncomputable def readV (s : ByteArray) : Int := if goodT s then dayV (num s 0 4) (num s 5 2) (num s 8 2) else 0
open Classical in
noncomputable def readE (s : ByteArray) : Int := if goodT s then dayE (num s 0 4) (num s 5 2) (num s 8 2) else 3
theorem read_bad {s : ByteArray} (h : ¬ goodT s) : readV s = 0 ∧ readE s = 3 := by simp [readV, readE, h]
theorem read_good {s : ByteArray} (h : goodT s) : readV s = dayV (num s 0 4) (num s 5 2) (num s 8 2) ∧ readE s = dayE (num s 0 4) (num s 5 2) (num s 8 2) := by simp [readV, readE, h]
theorem not_good {s : ByteArray} {i : Nat} (hi : i < 10) (h : ¬ OkAt s i) : readV s = 0 ∧ readE s = 3 := read_bad fun g => h (g.2 i hi)
theorem okAt_dash {s : ByteArray} {i : Nat} (h : i = 4 ∨ i = 7) : OkAt s i ↔ byt s i = 45 := by unfold OkAt; rw [if_pos h]
theorem okAt_dig {s : ByteArray} {i : Nat} (h : ¬ (i = 4 ∨ i = 7)) : OkAt s i ↔ 48 ≤ byt s i ∧ byt s i ≤ 57 := by unfold OkAt; rw [if_neg h]

/-- the three cells of the parts, and what else lies -/
def Cells3 (w wr : World) (a b c : Int) : Prop :=
  Below w.heap.size w wr ∧ w.heap.size < wr.heap.size ∧
  wr.cell? ⟨w.heap.size, 0, none⟩ = some (.int .i64 a) ∧ wr.cell? ⟨w.heap.size, 1, none⟩ = some (.int .i64 b) ∧ wr.cell? ⟨w.heap.size, 2, none⟩ = some (.int .i64 c) ∧
  wr.frozen? ⟨w.heap.size, 0, none⟩ = false ∧ wr.frozen? ⟨w.heap.size, 1, none⟩ = false ∧ wr.frozen? ⟨w.heap.size, 2, none⟩ = false
def Byts (s : ByteArray) (w wr : World) : Prop := w.heap.size + 1 < wr.heap.size ∧ ∀ j, j < 10 → wr.cell? ⟨w.heap.size + 1, j, none⟩ = some (.int .u8 (byt s j))
theorem Cells3.set {w wr : World} {a b c : Int} (h : Cells3 w wr a b c) (k : Nat) (hk : k < 3) (v : Int) :
    Cells3 w (wr.setCell ⟨w.heap.size, k, none⟩ (.int .i64 v)) (if k = 0 then v else a) (if k = 1 then v else b) (if k = 2 then v else c) := by
  obtain ⟨h1, h2, c0, c1, c2, f0, f1, f2⟩ := h
  have hk' : k = 0 ∨ k = 1 ∨ k = 2 := by omega
  refine ⟨h1.setCell (Nat.le_refl _) _, by simpa using h2, ?_, ?_, ?_, ?_, ?_, ?_⟩
  all_goals rcases hk' with rfl | rfl | rfl <;> simp [cell_set, c0, c1, c2, f0, f1, f2]
theorem Byts.set {s : ByteArray} {w wr : World} (h : Byts s w wr) (k : Nat) (v : Value) : Byts s w (wr.setCell ⟨w.heap.size, k, none⟩ v) :=
  ⟨by simpa using h.1, fun j hj => by rw [cell_set, if_neg (by intro e; have := congrArg Addr.block e; simp at this)]; exact h.2 j hj⟩
/-- where the parts' counter stands -/
def kOf (i : Nat) : Int := if i ≤ 4 then 0 else if i ≤ 7 then 1 else 2
theorem kOf_lo {i : Nat} (h : i ≤ 4) : kOf i = 0 := by simp [kOf, h]
theorem kOf_mid {i : Nat} (h1 : 4 < i) (h2 : i ≤ 7) : kOf i = 1 := by
  have : ¬ i ≤ 4 := by omega
  simp [kOf, this, h2]
theorem kOf_hi {i : Nat} (h1 : 7 < i) : kOf i = 2 := by
  have h2 : ¬ i ≤ 4 := by omega
  have h3 : ¬ i ≤ 7 := by omega
  simp [kOf, h2, h3]
theorem cells3_start (w : World) (t : TypeId) (o : Obj) : Cells3 w ((w.alloc (.cells #[.int .i64 0, .int .i64 0, .int .i64 0] t)).alloc o).drew 0 0 0 := by
  refine ⟨by go_grown, by simp; omega, ?_, ?_, ?_, ?_, ?_, ?_⟩
  all_goals simp
theorem byts_start (w : World) {s : ByteArray} (o : Obj) (c : Nat) (t : TypeId) (fr : Nat × Nat) (hs : s.size = 10) (h1 : o = o) : Byts s w ((w.alloc o).alloc (.cells (bytesRow s c) t fr)).drew := by
  refine ⟨by simp, fun j hj => ?_⟩
  have e : w.heap.size + 1 = (w.alloc o).heap.size := by simp
  show ((w.alloc o).alloc (.cells (bytesRow s c) t fr)).cell? ⟨w.heap.size + 1, j, none⟩ = _
  have hj' : j < s.data.size := by show j < s.size; omega
  rw [e, World.cell?_alloc_mark, bytesRow_at s c j hj', ← byt_at s j (by omega)]
  rfl
def RdI (s : ByteArray) (w wr : World) (j : Nat) (a b c : Int) : Prop := Par s j a b c ∧ Upto s j ∧ Cells3 w wr a b c ∧ Byts s w wr

theorem tab_below {w wr : World} (h : Tab w) (hb : Below w.heap.size w wr) : Tab wr := fun i hi => by
  have h0 := h i hi
  rw [hb.cell (p := ⟨0, i, none⟩) (World.block_lt_of_cell? w _ h0)]
  exact h0
set_option maxHeartbeats 1000000 in
theorem Read_any (s : ByteArray) (w : World) (hT : Tab w) : Calls Tryd.prog 20 #[.string s] w fun e w' => e = .returned (.tuple #[.int .i64 (readV s), .int .i64 (readE s)]) ∧ Below w.heap.size w w' := by
  have HT := Lib.hid hT
  clear hT
  by_cases hs : s.size = 10
  · have hcv := fun w => run_bytes_of_string (P := Tryd.prog) w 9 71 5 s Tryd.underlying9 Tryd.underlying71 Tryd.underlying5
    go_enter Tryd.func20, Tryd.ntmps20
    go_wp2_with fail
    go_loopw [5, 14] (fun k i wr => ∃ (j : Nat) (a b c : Int), j ≤ 10 ∧ i = .int .i64 j ∧ k = .int .i64 (kOf j) ∧ RdI s w wr j a b c) (fun _ i _ => 10 - (intOf i).toNat)
    case atStart =>
      refine ⟨0, 0, 0, 0, by omega, rfl, rfl, Par.zero s, Upto.zero s, ?_, ?_⟩
      · exact cells3_start w _ _
      · exact byts_start w _ _ _ _ hs rfl
    case round =>
      obtain ⟨j, a, b, c, hj, rfl, rfl, ⟨hP, hU, hC, hY⟩⟩ := hrel
      obtain ⟨hB, h2, c0, c1, c2, f0, f1, f2⟩ := id hC
      have h3 := hY.1
      by_cases h10 : j < 10
      · obtain ⟨z, hz⟩ : ∃ z, z = byt s j := ⟨_, rfl⟩
        obtain ⟨zb1, zb2⟩ := byt_bd s j
        rw [← hz] at zb1 zb2
        have y := hY.2 j h10
        rw [← hz] at y
        obtain ⟨ba, bb, bc⟩ := hP.bd hU hj
        by_cases hd : j = 4 ∨ j = 7
        · have HD := Lib.hid (okAt_dash (s := s) hd)
          have HP := Lib.hid (hP.dash hd)
          have HU := Lib.hid hU
          have HC := Lib.hid hC
          have HY := Lib.hid hY
          clear ba bb bc hP hU hC hY
          by_cases hg : z = 45
          · have hO : OkAt s j := HD.out.2 (by rw [← hz]; exact hg)
            have HI := Lib.hid (show RdI s w wr (j + 1) a b c from ⟨HP.out, HU.out.succ hO, HC.out, HY.out⟩)
            clear hz
            subst hg
            rcases hd with rfl | rfl
            · have HK := Lib.hid (show kOf 5 = kOf 4 + 1 from rfl)
              have hk : kOf 4 = 0 := rfl
              go_wp2
              go_roundw
              case rel => exact ⟨5, a, b, c, by omega, rfl, rfl, HI.out⟩
              case measure => simp [intOf]
            · have hk : kOf 7 = 1 := rfl
              go_wp2
              go_roundw
              case rel => exact ⟨8, a, b, c, by omega, rfl, rfl, HI.out⟩
              case measure => simp [intOf]
          · have HB := Lib.hid (not_good h10 (fun h => hg (by rw [hz]; exact HD.out.1 h)))
            clear hz
            rcases hd with rfl | rfl
            · have hk : kOf 4 = 0 := rfl
              go_wp2
              go_ret2
              exact ⟨ret_ii HB.out.1.symm HB.out.2.symm, by go_grown⟩
            · have hk : kOf 7 = 1 := rfl
              go_wp2
              go_ret2
              exact ⟨ret_ii HB.out.1.symm HB.out.2.symm, by go_grown⟩
        · have n4 : ((j : Int) == 4) = false := by simp; omega
          have n7 : ((j : Int) == 7) = false := by simp; omega
          by_cases hg : 48 ≤ z ∧ z ≤ 57
          · have hO : OkAt s j := (okAt_dig hd).2 (by rw [← hz]; exact hg)
            obtain ⟨z1, z2⟩ := hg
            have hcl : j < 4 ∨ (4 < j ∧ j < 7) ∨ 7 < j := by omega
            rcases hcl with hc | hc | hc
            · have hk : kOf j = 0 := kOf_lo (by omega)
              obtain ⟨v1, v2⟩ := ba hc
              have HI := Lib.hid (show RdI s w (wr.setCell ⟨w.heap.size, 0, none⟩ (.int .i64 (10 * a + (z - 48)))) (j + 1) (10 * a + (z - 48)) (b) (c) from ⟨by rw [hz]; exact hP.a hc, hU.succ hO, hC.set 0 (by omega) _, hY.set 0 _⟩)
              have HK2 := Lib.hid (show kOf (j + 1) = 0 from kOf_lo (by omega))
              clear ba bb bc hP hU hC hY hz hO
              go_wp2
              exact ⟨⟨j + 1, 10 * a + (z - 48), b, c, by omega, rfl, by rw [HK2.out], HI.out⟩, by simp [intOf]; omega⟩
            · have hk : kOf j = 1 := kOf_mid (by omega) (by omega)
              obtain ⟨v1, v2⟩ := bb hc.1 hc.2
              have HI := Lib.hid (show RdI s w (wr.setCell ⟨w.heap.size, 1, none⟩ (.int .i64 (10 * b + (z - 48)))) (j + 1) (a) (10 * b + (z - 48)) (c) from ⟨by rw [hz]; exact hP.b hc.1 hc.2, hU.succ hO, hC.set 1 (by omega) _, hY.set 1 _⟩)
              have HK2 := Lib.hid (show kOf (j + 1) = 1 from kOf_mid (by omega) (by omega))
              clear ba bb bc hP hU hC hY hz hO
              go_wp2
              exact ⟨⟨j + 1, a, 10 * b + (z - 48), c, by omega, rfl, by rw [HK2.out], HI.out⟩, by simp [intOf]; omega⟩
            · have hk : kOf j = 2 := kOf_hi (by omega)
              obtain ⟨v1, v2⟩ := bc hc h10
              have HI := Lib.hid (show RdI s w (wr.setCell ⟨w.heap.size, 2, none⟩ (.int .i64 (10 * c + (z - 48)))) (j + 1) (a) (b) (10 * c + (z - 48)) from ⟨by rw [hz]; exact hP.c hc, hU.succ hO, hC.set 2 (by omega) _, hY.set 2 _⟩)
              have HK2 := Lib.hid (show kOf (j + 1) = 2 from kOf_hi (by omega))
              clear ba bb bc hP hU hC hY hz hO
              go_wp2
              exact ⟨⟨j + 1, a, b, 10 * c + (z - 48), by omega, rfl, by rw [HK2.out], HI.out⟩, by simp [intOf]; omega⟩
          · have HB := Lib.hid (not_good h10 (fun h => hg (by rw [hz]; exact (okAt_dig hd).1 h)))
            have HG := Lib.hid hg
            clear ba bb bc hP hU hC hY hg hz
            by_cases z1 : z < 48
            · go_wp2
              go_ret2
              exact ⟨ret_ii HB.out.1.symm HB.out.2.symm, by go_grown⟩
            · have z2 : 57 < z := by have := HG.out; omega
              go_wp2
              go_ret2
              exact ⟨ret_ii HB.out.1.symm HB.out.2.symm, by go_grown⟩
      · obtain rfl : j = 10 := by omega
        have HR := Lib.hid (read_good ⟨hs, hU⟩)
        have HP := Lib.hid hP
        clear hP hU hC hY
        go_wp2_with (go_at_call 9; refine Calls.mono (Days_any _ _ _ _ (tab_below HT.out hB)) ?_; rintro x w' ⟨rfl, q, rfl⟩)
        go_ret2
        exact ⟨ret_ii (by rw [HR.out.1, HP.out.1, HP.out.2.1, HP.out.2.2]; rfl) (by rw [HR.out.2, HP.out.1, HP.out.2.1, HP.out.2.2]; rfl), below_drewN hB _⟩
  · have HV := Lib.hid (read_bad (s := s) (fun h => hs h.1))
    go_enter Tryd.func20, Tryd.ntmps20
    go_wp2_with fail
    go_ret2
    exact ⟨ret_ii HV.out.1.symm HV.out.2.symm, Below.refl _ _⟩
end Go.Proofs.YtdbipmidjdhjpaaDoor
