/- Rows of timers that are told: how they lie. -/
import Derived.Test.YtjoejdpoehpkiaaWheelRowM
import Derived.Test.YtjoejdpoehpkiaaSpanFull
import Derived.Test.YtjoejdpoehpkiaaKept
namespace Go.Proofs.Ytjoejdpoehpkiaa
open Go.ChangeShapes Go.WideShapes Go.ChangeAt Go.RowKit
set_option linter.unusedVariables false
open Wh
def fires (os : List Tm) : List Value := os.flatMap fun t => [.int .i64 t.at', .int .i64 t.id]
theorem fires_length (os : List Tm) : (fires os).length = os.length * 2 := by
  unfold fires
  induction os with
  | nil => rfl
  | cons a l ih => rw [List.flatMap_cons, List.length_append, ih]; simp; omega
theorem fires_push (os : List Tm) (t : Tm) : fires (os ++ [t]) = fires os ++ [.int .i64 t.at', .int .i64 t.id] := by simp [fires]
theorem fires_app (os us : List Tm) : fires (os ++ us) = fires os ++ fires us := by simp [fires]
theorem fires_at : ∀ {os : List Tm} {i : Nat} {t : Tm}, os[i]? = some t → (fires os)[i * 2]? = some (.int .i64 t.at') ∧ (fires os)[i * 2 + 1]? = some (.int .i64 t.id)
  | [], i, t, h => by simp at h
  | a :: l, 0, t, h => by simp at h; subst h; simp [fires]
  | a :: l, i + 1, t, h => by
    have := fires_at (os := l) (i := i) (t := t) (by simpa using h)
    have e : fires (a :: l) = [.int .i64 a.at', .int .i64 a.id] ++ fires l := by simp [fires]
    rw [e, List.getElem?_append_right (by simp; omega), List.getElem?_append_right (by simp; omega)]
    simpa [show (i + 1) * 2 - 2 = i * 2 from by omega, show (i + 1) * 2 + 1 - 2 = i * 2 + 1 from by omega] using this
theorem fires_split (qs : List Tm) (b : Nat) (t : Tm) (h : qs[b]? = some t) : fires qs = fires (qs.take b) ++ ([.int .i64 t.at', .int .i64 t.id] ++ fires (qs.drop (b + 1))) := by
  obtain ⟨u, v, rfl, rfl⟩ : ∃ u v, qs = u ++ t :: v ∧ u.length = b := by
    obtain ⟨hb, rfl⟩ := List.getElem?_eq_some_iff.1 h
    exact ⟨qs.take b, qs.drop (b + 1), by rw [← List.drop_eq_getElem_cons hb, List.take_append_drop], by rw [List.length_take]; omega⟩
  have e1 : (u ++ t :: v).take u.length = u := by simp
  have e2 : (u ++ t :: v).drop (u.length + 1) = v := by simp
  rw [e1, e2, fires_app]
  simp [fires]
theorem infoFire : (Try.prog.info? 38).map (fun i => (i.zero, i.size, i.bytes)) = some (some (.agg #[.int .i64 0, .int .i64 0]), 2, 16) := by kernel_rfl
structure FW (w : World) (a : Option Addr) (cap : Nat) (qs : List Tm) : Prop where
  cap' : qs.length ≤ cap ∧ cap ≤ 9223372036854775807
  nil' : a = none → qs.length = 0 ∧ cap = 0
  spot : ∀ b, a = some b → b.spot = none
  vals : Vals w a (fires qs)
theorem FW.below {w w' : World} {a : Option Addr} {cap : Nat} {qs : List Tm} (h : FW w a cap qs) {B : Nat} (hb : Below B w w') (hB : w.heap.size ≤ B) : FW w' a cap qs := ⟨h.cap', h.nil', h.spot, h.vals.below hb hB⟩
theorem fireCells {w : World} {a : Option Addr} {qs : List Tm} (h : Vals w a (fires qs)) {j : Nat} {t : Tm} (hj : qs[j]? = some t) : ∃ b off, a = some ⟨b, off, none⟩ ∧ b < w.heap.size ∧ w.cell? ⟨b, off + j * 2, none⟩ = some (.int .i64 t.at') ∧ w.cell? ⟨b, off + j * 2 + 1, none⟩ = some (.int .i64 t.id) := by
  have hl := (List.getElem?_eq_some_iff.1 hj).1
  obtain ⟨b, off, e, hb, hv⟩ := h (by rw [fires_length]; omega)
  obtain ⟨h1, h2⟩ := fires_at hj
  exact ⟨b, off, e, hb, hv _ _ h1, by rw [Nat.add_assoc]; exact hv _ _ h2⟩
theorem spanRow.fw {w : World} {base : Nat} {e : TypeId} {v : Value} {qs : List Tm} (h : spanRow w base e 2 v qs.length (fires qs)) : ∃ a cap, v = .slice a qs.length cap ∧ FW w a cap qs := by
  obtain ⟨a, cap, e, h1, h2, h3, h4, h5⟩ := h.form
  exact ⟨a, cap, e, ⟨h1, by unfold maxLen at h2; omega⟩, h3, h4, h5⟩
/-- the document's wheel: its time, its row; all in G -/
def rwF (now : Int) (v : Value) (i : Nat) : Value := if i = 0 then .int .i64 now else v
structure RWh (G : Nat → Prop) (gr : Nat) (now : Int) (v : Value) (qs : List Tm) (w : World) : Prop where
  var : w.rowIs gr 28 2 (rwF now v)
  fr : G gr
  row : spanRow w 0 38 2 v qs.length (fires qs)
  rowF : ∀ k, v.ownBlock = some k → G k
section
variable {G H : Nat → Prop} {gr : Nat} {now : Int} {v : Value} {qs : List Tm} {w w' : World}
theorem RWh.kept_all (h : RWh G gr now v qs w) (hb : ∀ k, G k → k < w.heap.size → w'.heap[k]? = w.heap[k]?) : RWh G gr now v qs w' :=
  ⟨h.var.of_block (hb _ h.fr h.var.lt), h.fr, h.row.block fun k hk => hb k (h.rowF k hk) (h.row.lt k hk).2, h.rowF⟩
theorem RWh.below (h : RWh G gr now v qs w) (hb : Below w.heap.size w w') : RWh G gr now v qs w' := h.kept_all fun k _ hk => hb.block k hk
theorem RWh.wide (h : RWh G gr now v qs w) (hG : ∀ k, G k → H k) : RWh H gr now v qs w := ⟨h.var, hG _ h.fr, h.row, fun k hk => hG k (h.rowF k hk)⟩
theorem RWh.small (h : RWh G gr now v qs w) : RWh (fun k => G k ∧ k < w.heap.size) gr now v qs w := ⟨h.var, ⟨h.fr, h.var.lt⟩, h.row, fun k hk => ⟨h.rowF k hk, (h.row.lt k hk).2⟩⟩
theorem RWh.c0 (h : RWh G gr now v qs w) : w.cell? ⟨gr, 0, none⟩ = some (.int .i64 now) := h.var.cell (i := 0) (by omega)
theorem RWh.c1 (h : RWh G gr now v qs w) : w.cell? ⟨gr, 1, none⟩ = some v := h.var.cell (i := 1) (by omega)
end
set_option maxHeartbeats 1600000 in
theorem eqFires (os : List Tm) (v1 v2 : Value) (w : World) (hm : os.length ≤ 1000) (h1 : IsRow w v1 os.length (fires os)) (h2 : IsRow w v2 os.length (fires os)) :
    Calls Try.prog 11 #[v1, v2] w fun e w' => e = .returned (.bool true) ∧ Below w.heap.size w w' := by
  obtain ⟨a1, c1, rfl, hA⟩ := h1
  obtain ⟨a2, c2, rfl, hB⟩ := h2
  have HA := Lib.hid hA
  have HB := Lib.hid hB
  obtain ⟨n, hn⟩ : ∃ n, os.length = n := ⟨_, rfl⟩
  have HN := Lib.hid hn
  rw [hn] at hm ⊢
  clear hA hB hn
  have hnb : ((n : Int) != n) = false := by simp
  go_enter Try.func11, Try.ntmps11
  go_wp2_with fail
  go_loopw [13] (fun x wr => ∃ i : Nat, i ≤ n ∧ x = .int .i64 i ∧ Below w.heap.size w wr) (fun x _ => n - (intOf x).toNat)
  case atStart => exact ⟨0, by omega, rfl, Below.refl _ _⟩
  case round =>
    obtain ⟨i, hi, rfl, hW⟩ := hrel
    by_cases hin : i < n
    · obtain ⟨b1, o1, rfl, hb1, hc1⟩ := HA.out (by rw [fires_length]; have := HN.out; omega)
      obtain ⟨b2, o2, rfl, hb2, hc2⟩ := HB.out (by rw [fires_length]; have := HN.out; omega)
      obtain ⟨t, ht⟩ : ∃ p, os[i]? = some p := ⟨_, List.getElem?_eq_getElem (by have := HN.out; omega)⟩
      obtain ⟨f1, f2⟩ := fires_at ht
      have q1 := (hW.cell (p := ⟨b1, o1 + i * 2, none⟩) hb1).trans (hc1 (i * 2) _ f1)
      have q2 := (hW.cell (p := ⟨b1, o1 + i * 2 + 1, none⟩) hb1).trans (hc1 (i * 2 + 1) _ f2)
      have q3 := (hW.cell (p := ⟨b2, o2 + i * 2, none⟩) hb2).trans (hc2 (i * 2) _ f1)
      have q4 := (hW.cell (p := ⟨b2, o2 + i * 2 + 1, none⟩) hb2).trans (hc2 (i * 2 + 1) _ f2)
      have hi1 : (0 : Int) ≤ (i : Int) := by omega
      have hi2 : (i : Int) < (n : Int) := by omega
      have hx1 : (t.at' == t.at') = true := by simp
      have hy1 : (t.id == t.id) = true := by simp
      clear hc1 hc2 ht f1 f2
      go_wp2_with fail
      go_quiet (fail)
      go_wp2_with fail
      go_roundw
      case rel => exact ⟨i + 1, by omega, rfl, by refine below_drewN ?_ _; exact hW⟩
      case measure => simp [intOf]; omega
    · go_wp2_with fail
      go_ret
      exact ⟨rfl, hW⟩
end Go.Proofs.Ytjoejdpoehpkiaa
