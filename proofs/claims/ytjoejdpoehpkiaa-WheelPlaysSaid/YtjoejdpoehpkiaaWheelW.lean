/- The program's wheel: its memory; contract: a slot. -/
import Derived.Test.YtjoejdpoehpkiaaWheelRow
import Derived.Deep.CutBlock
import Derived.Deep.DeepCutAuto
import Derived.Deep.LoopGhost
import Derived.BigQuiet
import Derived.Maps.OwnSet
import Derived.Maps.OwnOps
import Derived.Maps.RangeWalk
import Derived.Laws.BitsAllLaws
import Derived.Laws.Shifts
namespace Go.Proofs.Ytjoejdpoehpkiaa
open Go.ChangeShapes Go.WideShapes Go.ChangeAt Go.RowKit
open Go.Maps (Keyed)
set_option linter.unusedVariables false
set_option linter.unusedSimpArgs false
open Wh
def tms (os : List Tm) : List Value := os.flatMap fun t => [.int .i64 t.at', .int .i64 t.id, .int .i64 t.born]
theorem tms_length (os : List Tm) : (tms os).length = os.length * 3 := by
  unfold tms
  induction os with
  | nil => rfl
  | cons a l ih => rw [List.flatMap_cons, List.length_append, ih]; simp; omega
theorem tms_push (os : List Tm) (t : Tm) : tms (os ++ [t]) = tms os ++ [.int .i64 t.at', .int .i64 t.id, .int .i64 t.born] := by simp [tms]
theorem tms_app (os us : List Tm) : tms (os ++ us) = tms os ++ tms us := by simp [tms]
theorem tms_at : ∀ {os : List Tm} {i : Nat} {t : Tm}, os[i]? = some t → (tms os)[i * 3]? = some (.int .i64 t.at') ∧ (tms os)[i * 3 + 1]? = some (.int .i64 t.id) ∧ (tms os)[i * 3 + 2]? = some (.int .i64 t.born)
  | [], i, t, h => by simp at h
  | a :: l, 0, t, h => by simp at h; subst h; simp [tms]
  | a :: l, i + 1, t, h => by
    have := tms_at (os := l) (i := i) (t := t) (by simpa using h)
    have e : tms (a :: l) = [.int .i64 a.at', .int .i64 a.id, .int .i64 a.born] ++ tms l := by simp [tms]
    rw [e, List.getElem?_append_right (by simp; omega), List.getElem?_append_right (by simp; omega), List.getElem?_append_right (by simp; omega)]
    simpa [show (i + 1) * 3 - 3 = i * 3 from by omega, show (i + 1) * 3 + 1 - 3 = i * 3 + 1 from by omega, show (i + 1) * 3 + 2 - 3 = i * 3 + 2 from by omega] using this
theorem infoTimer : (Try.prog.info? 51).map (fun i => (i.zero, i.size, i.bytes)) = some (some (.agg #[.int .i64 0, .int .i64 0, .int .i64 0]), 3, 24) := by kernel_rfl
def wF (now born : Int) (gm : Nat) (V : Nat → Value) (i : Nat) : Value := if i = 0 then .int .i64 now else if i = 1 then .int .i64 born else if i = 2 then .map (some gm) else V (i - 3)
/-- a wheel's struct and its slots; all in F -/
structure WW (F : Nat → Prop) (gw gm : Nat) (now born : Int) (V : Nat → Value) (S : Nat → List Tm) (w : World) : Prop where
  var : w.rowIs gw 48 323 (wF now born gm V)
  fw : F gw
  row : ∀ i, i < 320 → w.ownsRow 0 51 3 (V i) (S i).length (tms (S i))
  rowF : ∀ i k, i < 320 → (V i).ownBlock = some k → F k
  inj : ∀ i j k, i < 320 → j < 320 → (V i).ownBlock = some k → (V j).ownBlock = some k → i = j
section
variable {F G : Nat → Prop} {gw gm : Nat} {now born : Int} {V : Nat → Value} {S : Nat → List Tm} {w w' : World}
theorem WW.kept_all (h : WW F gw gm now born V S w) (hb : ∀ k, F k → k < w.heap.size → w'.heap[k]? = w.heap[k]?) : WW F gw gm now born V S w' :=
  ⟨h.var.of_block (hb _ h.fw h.var.lt), h.fw, fun i hi => own_block (h.row i hi) fun k hk => hb k (h.rowF i k hi hk) ((h.row i hi).lt k hk).2, h.rowF, h.inj⟩
theorem WW.below (h : WW F gw gm now born V S w) (hb : Below w.heap.size w w') : WW F gw gm now born V S w' := h.kept_all fun k _ hk => hb.block k hk
theorem WW.wide (h : WW F gw gm now born V S w) (hG : ∀ k, F k → G k) : WW G gw gm now born V S w := ⟨h.var, hG _ h.fw, h.row, fun i k hi hk => hG k (h.rowF i k hi hk), h.inj⟩
theorem WW.small (h : WW F gw gm now born V S w) : WW (fun k => F k ∧ k < w.heap.size) gw gm now born V S w := ⟨h.var, ⟨h.fw, h.var.lt⟩, h.row, fun i k hi hk => ⟨h.rowF i k hi hk, ((h.row i hi).lt k hk).2⟩, h.inj⟩
theorem WW.c0 (h : WW F gw gm now born V S w) : w.cell? ⟨gw, 0, none⟩ = some (.int .i64 now) := h.var.cell (i := 0) (by omega)
theorem WW.c1 (h : WW F gw gm now born V S w) : w.cell? ⟨gw, 1, none⟩ = some (.int .i64 born) := h.var.cell (i := 1) (by omega)
theorem WW.c2 (h : WW F gw gm now born V S w) : w.cell? ⟨gw, 2, none⟩ = some (.map (some gm)) := h.var.cell (i := 2) (by omega)
theorem WW.cs (h : WW F gw gm now born V S w) {i : Nat} (hi : i < 320) : w.cell? ⟨gw, 3 + i, none⟩ = some (V i) := by
  have := h.var.cell (i := 3 + i) (by omega)
  rw [this]
  unfold wF
  rw [if_neg (by omega), if_neg (by omega), if_neg (by omega), show 3 + i - 3 = i from by omega]
end
theorem and63 (n : Int) : bits .and .i64 n 63 = n % 64 := by
  have h63 : (BitVec.ofInt 64 63).toNat = 2 ^ 6 - 1 := by decide
  have key : (BitVec.ofInt 64 n &&& BitVec.ofInt 64 63).toNat = (n % ((2 ^ 64 : Nat) : Int)).toNat % 2 ^ 6 := by
    rw [BitVec.toNat_and, BitVec.toNat_ofInt, h63, Nat.and_two_pow_sub_one_eq_mod]
  show IntKind.i64.wrap ((BitVec.ofInt 64 n &&& BitVec.ofInt 64 63).toNat : Nat) = n % 64
  rw [key, IntKind.wrap_i64]
  omega
theorem slot_bits (d x : Int) : ∃ k : Nat, k < 64 ∧ (x / d % 64).toNat = k ∧ bits .and .i64 (x / d) 63 = (k : Int) := ⟨(x / d % 64).toNat, by omega, rfl, by rw [and63]; omega⟩
set_option maxRecDepth 20000 in
set_option maxHeartbeats 4000000 in
theorem slot_any (F : Nat → Prop) (gw gm : Nat) (now born : Int) (V : Nat → Value) (S : Nat → List Tm) (x : Int) (w : World) (h : WW F gw gm now born V S w) (hn : 0 ≤ now ∧ now ≤ 1099511627776) (hx : 0 ≤ x ∧ x ≤ 1099511627776) :
    Calls Try.prog 16 #[.pointer (some ⟨gw, 0, none⟩), .int .i64 x] w fun e w' => e = .returned (.pointer (some ⟨gw, 3 + pl now x, none⟩)) ∧ ∃ q, w' = w.drewN q := by
  have c0 := h.c0
  have lw := h.var.lt
  clear h
  go_enter Try.func16, Try.ntmps16
  go_wp2_with fail
  go_loopw [5] (fun v wr => ∃ l : Nat, l ≤ lev now x ∧ v = .int .i64 l ∧ Hid (∃ q, wr = w.drewN q)) (fun v _ => 5 - (intOf v).toNat)
  case atStart => exact ⟨0, by omega, rfl, Lib.hid ⟨0, rfl⟩⟩
  case round =>
    obtain ⟨l, hl, rfl, HQ⟩ := hrel
    have hc : wr.cell? ⟨gw, 0, none⟩ = some (.int .i64 now) := by obtain ⟨q, rfl⟩ := HQ.out; exact c0
    have hlq : gw < wr.heap.size := by obtain ⟨q, rfl⟩ := HQ.out; exact lw
    have h4 := lev_le now x
    have w0 : IntKind.i64.wrap 0 = 0 := by decide
    have w1 : IntKind.i64.wrap 1 = 1 := by decide
    have w2 : IntKind.i64.wrap 2 = 2 := by decide
    have w3 : IntKind.i64.wrap 3 = 3 := by decide
    have w4 : IntKind.i64.wrap 4 = 4 := by decide
    have w6 : IntKind.i64.wrap 6 = 6 := by decide
    have w12 : IntKind.i64.wrap 12 = 12 := by decide
    have w18 : IntKind.i64.wrap 18 = 18 := by decide
    have w24 : IntKind.i64.wrap 24 = 24 := by decide
    rcases lev_eqs now x with ⟨e, h1⟩ | ⟨e, h0, h1⟩ | ⟨e, h0, h1⟩ | ⟨e, h0, h1⟩ | ⟨e, h0⟩
    · have hp : pl now x = (x / 1 % 64).toNat := by rw [pl0 e, Int.ediv_one]
      have HE := Lib.hid e
      rw [e] at hl
      obtain rfl : l = 0 := by omega
      have h2 : (x / 64 != now / 64) = false := by simp; omega
      obtain ⟨k, hk, hk2, hk3⟩ := slot_bits 1 x
      rw [hk2] at hp
      rw [Int.ediv_one] at hk3
      have HP := Lib.hid hp
      have k1 : (0 : Int) ≤ (k : Int) := by omega
      have k2 : (k : Int) < 64 := by omega
      clear hk2 hk
      clear c0 hl e h4 hp h1
      go_wp2_with fail
      go_quiet (fail)
      go_wp2_with fail
      go_quiet (fail)
      go_wp2_with fail
      go_ret
      rw [HP.out]
      exact ⟨by simp [Nat.add_assoc, Nat.add_comm, Nat.add_left_comm], by obtain ⟨q, rfl⟩ := HQ.out; rw [World.drewN_drewN, World.drewN_drewN]; exact ⟨_, rfl⟩⟩
    · have hp : pl now x = 64 + (x / 64 % 64).toNat := pl1 e
      have HE := Lib.hid e
      rw [e] at hl
      have hls : l = 0 ∨ l = 1 := by omega
      rcases hls with rfl | rfl
      · have h2 : (x / 64 != now / 64) = true := by simp; omega
        clear c0 hl e h4 hp h0 h1
        go_wp2_with fail
        go_quiet (fail)
        go_wp2_with fail
        go_roundw
        case rel => exact ⟨1, by rw [HE.out]; omega, rfl, Lib.hid (by obtain ⟨q, rfl⟩ := HQ.out; exact ⟨_, World.drewN_drewN _ _ _⟩)⟩
        case measure => simp [intOf]
      · have h2 : (x / 4096 != now / 4096) = false := by simp; omega
        obtain ⟨k, hk, hk2, hk3⟩ := slot_bits 64 x
        rw [hk2] at hp
        have HP := Lib.hid hp
        have k1 : (0 : Int) ≤ (k : Int) := by omega
        have k2 : (k : Int) < 64 := by omega
        clear hk2 hk
        clear c0 hl e h4 hp h0 h1
        go_wp2_with fail
        go_quiet (fail)
        go_wp2_with fail
        go_quiet (fail)
        go_wp2_with fail
        go_ret
        rw [HP.out]
        exact ⟨by simp [Nat.add_assoc, Nat.add_comm, Nat.add_left_comm], by obtain ⟨q, rfl⟩ := HQ.out; rw [World.drewN_drewN, World.drewN_drewN]; exact ⟨_, rfl⟩⟩
    · have hp : pl now x = 128 + (x / 4096 % 64).toNat := pl2 e
      have HE := Lib.hid e
      rw [e] at hl
      have hls : l = 0 ∨ l = 1 ∨ l = 2 := by omega
      rcases hls with rfl | rfl | rfl
      · have h2 : (x / 64 != now / 64) = true := by simp; omega
        clear c0 hl e h4 hp h0 h1
        go_wp2_with fail
        go_quiet (fail)
        go_wp2_with fail
        go_roundw
        case rel => exact ⟨1, by rw [HE.out]; omega, rfl, Lib.hid (by obtain ⟨q, rfl⟩ := HQ.out; exact ⟨_, World.drewN_drewN _ _ _⟩)⟩
        case measure => simp [intOf]
      · have h2 : (x / 4096 != now / 4096) = true := by simp; omega
        clear c0 hl e h4 hp h0 h1
        go_wp2_with fail
        go_quiet (fail)
        go_wp2_with fail
        go_roundw
        case rel => exact ⟨2, by rw [HE.out]; omega, rfl, Lib.hid (by obtain ⟨q, rfl⟩ := HQ.out; exact ⟨_, World.drewN_drewN _ _ _⟩)⟩
        case measure => simp [intOf]
      · have h2 : (x / 262144 != now / 262144) = false := by simp; omega
        obtain ⟨k, hk, hk2, hk3⟩ := slot_bits 4096 x
        rw [hk2] at hp
        have HP := Lib.hid hp
        have k1 : (0 : Int) ≤ (k : Int) := by omega
        have k2 : (k : Int) < 64 := by omega
        clear hk2 hk
        clear c0 hl e h4 hp h0 h1
        go_wp2_with fail
        go_quiet (fail)
        go_wp2_with fail
        go_quiet (fail)
        go_wp2_with fail
        go_ret
        rw [HP.out]
        exact ⟨by simp [Nat.add_assoc, Nat.add_comm, Nat.add_left_comm], by obtain ⟨q, rfl⟩ := HQ.out; rw [World.drewN_drewN, World.drewN_drewN]; exact ⟨_, rfl⟩⟩
    · have hp : pl now x = 192 + (x / 262144 % 64).toNat := pl3 e
      have HE := Lib.hid e
      rw [e] at hl
      have hls : l = 0 ∨ l = 1 ∨ l = 2 ∨ l = 3 := by omega
      rcases hls with rfl | rfl | rfl | rfl
      · have h2 : (x / 64 != now / 64) = true := by simp; omega
        clear c0 hl e h4 hp h0 h1
        go_wp2_with fail
        go_quiet (fail)
        go_wp2_with fail
        go_roundw
        case rel => exact ⟨1, by rw [HE.out]; omega, rfl, Lib.hid (by obtain ⟨q, rfl⟩ := HQ.out; exact ⟨_, World.drewN_drewN _ _ _⟩)⟩
        case measure => simp [intOf]
      · have h2 : (x / 4096 != now / 4096) = true := by simp; omega
        clear c0 hl e h4 hp h0 h1
        go_wp2_with fail
        go_quiet (fail)
        go_wp2_with fail
        go_roundw
        case rel => exact ⟨2, by rw [HE.out]; omega, rfl, Lib.hid (by obtain ⟨q, rfl⟩ := HQ.out; exact ⟨_, World.drewN_drewN _ _ _⟩)⟩
        case measure => simp [intOf]
      · have h2 : (x / 262144 != now / 262144) = true := by simp; omega
        clear c0 hl e h4 hp h0 h1
        go_wp2_with fail
        go_quiet (fail)
        go_wp2_with fail
        go_roundw
        case rel => exact ⟨3, by rw [HE.out]; omega, rfl, Lib.hid (by obtain ⟨q, rfl⟩ := HQ.out; exact ⟨_, World.drewN_drewN _ _ _⟩)⟩
        case measure => simp [intOf]
      · have h2 : (x / 16777216 != now / 16777216) = false := by simp; omega
        obtain ⟨k, hk, hk2, hk3⟩ := slot_bits 262144 x
        rw [hk2] at hp
        have HP := Lib.hid hp
        have k1 : (0 : Int) ≤ (k : Int) := by omega
        have k2 : (k : Int) < 64 := by omega
        clear hk2 hk
        clear c0 hl e h4 hp h0 h1
        go_wp2_with fail
        go_quiet (fail)
        go_wp2_with fail
        go_quiet (fail)
        go_wp2_with fail
        go_ret
        rw [HP.out]
        exact ⟨by simp [Nat.add_assoc, Nat.add_comm, Nat.add_left_comm], by obtain ⟨q, rfl⟩ := HQ.out; rw [World.drewN_drewN, World.drewN_drewN]; exact ⟨_, rfl⟩⟩
    · have hp : pl now x = 256 + (x / 16777216 % 64).toNat := pl4 e
      have HE := Lib.hid e
      rw [e] at hl
      have hls : l = 0 ∨ l = 1 ∨ l = 2 ∨ l = 3 ∨ l = 4 := by omega
      rcases hls with rfl | rfl | rfl | rfl | rfl
      · have h2 : (x / 64 != now / 64) = true := by simp; omega
        clear c0 hl e h4 hp h0
        go_wp2_with fail
        go_quiet (fail)
        go_wp2_with fail
        go_roundw
        case rel => exact ⟨1, by rw [HE.out]; omega, rfl, Lib.hid (by obtain ⟨q, rfl⟩ := HQ.out; exact ⟨_, World.drewN_drewN _ _ _⟩)⟩
        case measure => simp [intOf]
      · have h2 : (x / 4096 != now / 4096) = true := by simp; omega
        clear c0 hl e h4 hp h0
        go_wp2_with fail
        go_quiet (fail)
        go_wp2_with fail
        go_roundw
        case rel => exact ⟨2, by rw [HE.out]; omega, rfl, Lib.hid (by obtain ⟨q, rfl⟩ := HQ.out; exact ⟨_, World.drewN_drewN _ _ _⟩)⟩
        case measure => simp [intOf]
      · have h2 : (x / 262144 != now / 262144) = true := by simp; omega
        clear c0 hl e h4 hp h0
        go_wp2_with fail
        go_quiet (fail)
        go_wp2_with fail
        go_roundw
        case rel => exact ⟨3, by rw [HE.out]; omega, rfl, Lib.hid (by obtain ⟨q, rfl⟩ := HQ.out; exact ⟨_, World.drewN_drewN _ _ _⟩)⟩
        case measure => simp [intOf]
      · have h2 : (x / 16777216 != now / 16777216) = true := by simp; omega
        clear c0 hl e h4 hp h0
        go_wp2_with fail
        go_quiet (fail)
        go_wp2_with fail
        go_roundw
        case rel => exact ⟨4, by rw [HE.out]; omega, rfl, Lib.hid (by obtain ⟨q, rfl⟩ := HQ.out; exact ⟨_, World.drewN_drewN _ _ _⟩)⟩
        case measure => simp [intOf]
      · obtain ⟨k, hk, hk2, hk3⟩ := slot_bits 16777216 x
        rw [hk2] at hp
        have HP := Lib.hid hp
        have k1 : (0 : Int) ≤ (k : Int) := by omega
        have k2 : (k : Int) < 64 := by omega
        clear hk2 hk
        clear c0 hl e h4 hp h0
        go_wp2_with fail
        go_quiet (fail)
        go_wp2_with fail
        go_quiet (fail)
        go_wp2_with fail
        go_ret
        rw [HP.out]
        exact ⟨by simp [Nat.add_assoc, Nat.add_comm, Nat.add_left_comm], by obtain ⟨q, rfl⟩ := HQ.out; rw [World.drewN_drewN, World.drewN_drewN]; exact ⟨_, rfl⟩⟩
end Go.Proofs.Ytjoejdpoehpkiaa
