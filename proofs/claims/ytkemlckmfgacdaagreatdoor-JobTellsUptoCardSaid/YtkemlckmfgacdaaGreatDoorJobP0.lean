/- Small lemmas that this seat's walks share: how a result reads, what stays below a block. -/
import Derived.Test.YtkemlckmfgacdaaGreatDoorRows
import Derived.WalkKit
import Derived.ProofKit
import Derived.OpenShut
import Derived.Handy
import Derived.WalkSmall
import Derived.BigQuiet
import Derived.Lib.Hide
import Derived.Deep.QuietTactic
import Derived.Deep.Draws
import Derived.Lib.IndexMore
import Derived.Laws.Strings2
import Derived.Laws.IdiomStrings
import Derived.WalkSpells
import Derived.Deep.LoopGhost
import Derived.Deep.AppendLies
import Derived.Deep.OwnRows
import Derived.OwnWalk
import Derived.Lib.ItoaNum
import Derived.Lib.ParseIntB
import Derived.Lib.SplitLaws
namespace Go.Proofs.YtkemlckmfgacdaaGreatDoor
open Go.ChangeShapes Go.WideShapes Go.ChangeAt Go.RowKit
theorem ret_int {k : IntKind} {a b : Int} (h : a = b) : Ending.returned (.int k a) = .returned (.int k b) := by rw [h]
theorem ret_bool {a b : Bool} (h : a = b) : Ending.returned (.bool a) = .returned (.bool b) := by rw [h]
theorem ret_ii {k l : IntKind} {a b c d : Int} (h : a = b) (g : c = d) : Ending.returned (.tuple #[.int k a, .int l c]) = .returned (.tuple #[.int k b, .int l d]) := by rw [h, g]
theorem ret_ib {k : IntKind} {a b : Int} {c d : Bool} (h : a = b) (g : c = d) : Ending.returned (.tuple #[.int k a, .bool c]) = .returned (.tuple #[.int k b, .bool d]) := by rw [h, g]
theorem ret_bi {k : IntKind} {a b : Int} {c d : Bool} (g : c = d) (h : a = b) : Ending.returned (.tuple #[.bool c, .int k a]) = .returned (.tuple #[.bool d, .int k b]) := by rw [h, g]
theorem bcell {W w1 : World} (hb : Below W.heap.size W w1) : (∀ b o, b < W.heap.size → w1.cell? ⟨b, o, none⟩ = W.cell? ⟨b, o, none⟩) ∧ (∀ b o, b < W.heap.size → w1.frozen? ⟨b, o, none⟩ = W.frozen? ⟨b, o, none⟩) :=
  ⟨fun b o h => hb.cell (p := ⟨b, o, none⟩) h, fun b o h => hb.frozen (p := ⟨b, o, none⟩) h⟩
theorem cell_set (w : World) (a b : Addr) (v : Value) : (w.setCell a v).cell? b = if a = b then (w.cell? b).map (fun _ => v) else w.cell? b := by
  by_cases h : a = b
  · subst h
    rw [if_pos rfl]
    cases hc : w.cell? a with
    | some u => rw [World.cell?_setCell_same w a v hc]; rfl
    | none =>
      simp only [World.cell?, World.setCell, Array.getElem?_modify, if_true] at hc ⊢
      cases hh : w.heap[a.block]? with
      | none => rfl
      | some x =>
        cases x <;> simp_all
  · rw [if_neg h]; exact World.cell?_setCell_other w a b v h
theorem quiet_add {P : Program} {f : FuncId} {args : Array Value} {w : World} {a n : Nat} {v : Value}
    (h : Calls P f args (w.drewN (a + n)) fun e w' => e = .returned v ∧ ∃ m, w' = (w.drewN (a + n)).drewN m) :
    Calls P f args (w.drewN (a + n)) fun e w'' => e = .returned v ∧ ∃ m, w'' = w.drewN (a + m) :=
  h.mono fun _ _ ⟨he, m, hm⟩ => ⟨he, n + m, by rw [hm, World.drewN_drewN, Nat.add_assoc]⟩
theorem quiet_left {P : Program} {f : FuncId} {args : Array Value} {w : World} {n : Nat} {v : Value}
    (h : Calls P f args (w.drewN n) fun e w' => e = .returned v ∧ w.drewN n = w') : Calls P f args (w.drewN n) fun e w'' => e = .returned v ∧ ∃ m, w'' = w.drewN m :=
  h.mono fun _ _ ⟨he, hm⟩ => ⟨he, n, hm.symm⟩
theorem quiet_add_left {P : Program} {f : FuncId} {args : Array Value} {w : World} {a n : Nat} {v : Value}
    (h : Calls P f args (w.drewN (a + n)) fun e w' => e = .returned v ∧ w.drewN (a + n) = w') : Calls P f args (w.drewN (a + n)) fun e w'' => e = .returned v ∧ ∃ m, w'' = w.drewN (a + m) :=
  h.mono fun _ _ ⟨he, hm⟩ => ⟨he, n, hm.symm⟩
/-- the world is as it was, draws apart -/
def Drawn (w w' : World) : Prop := ∃ q, w' = w.drewN q
theorem Drawn.refl (w : World) : Drawn w w := ⟨0, rfl⟩
theorem Drawn.drewN (w : World) (q : Nat) : Drawn w (w.drewN q) := ⟨q, rfl⟩
theorem quiet_drawn {P : Program} {f : FuncId} {args : Array Value} {w : World} {n : Nat} {v : Value}
    (h : Calls P f args (w.drewN n) fun e w' => e = .returned v ∧ Drawn (w.drewN n) w') : Calls P f args (w.drewN n) fun e w'' => e = .returned v ∧ ∃ m, w'' = w.drewN m :=
  h.mono fun _ _ ⟨he, m, hm⟩ => ⟨he, n + m, by rw [hm, World.drewN_drewN]⟩
theorem quiet_add_drawn {P : Program} {f : FuncId} {args : Array Value} {w : World} {a n : Nat} {v : Value}
    (h : Calls P f args (w.drewN (a + n)) fun e w' => e = .returned v ∧ Drawn (w.drewN (a + n)) w') : Calls P f args (w.drewN (a + n)) fun e w'' => e = .returned v ∧ ∃ m, w'' = w.drewN (a + m) :=
  h.mono fun _ _ ⟨he, m, hm⟩ => ⟨he, n + m, by rw [hm, World.drewN_drewN, Nat.add_assoc]⟩
theorem Drawn.below {w w' : World} (h : Drawn w w') (B : Nat) : Below B w w' := by
  obtain ⟨q, rfl⟩ := h; exact below_drewN (Below.refl _ _) q
theorem ret_4i {k l m o : IntKind} {a b c d a' b' c' d' : Int} (h1 : a = a') (h2 : b = b') (h3 : c = c') (h4 : d = d') : Ending.returned (.tuple #[.int k a, .int l b, .int m c, .int o d]) = .returned (.tuple #[.int k a', .int l b', .int m c', .int o d']) := by rw [h1, h2, h3, h4]
theorem results_tmp4 {fn : Func} {t u v x : Tmp} (h : fn.results = #[.tmp t, .tmp u, .tmp v, .tmp x]) (tmps : Array Value) (P : Program) (w : World) :
    (results fn tmps).run P w = .ok (.tuple #[tmps.getD t undef, tmps.getD u undef, tmps.getD v undef, tmps.getD x undef]) w := by simp [results, h]
end Go.Proofs.YtkemlckmfgacdaaGreatDoor
/- Plain: scripts with gaps: their parts, the names of the gaps, what they are filled to; no program in sight. -/
namespace Go.Proofs.YtkemlckmfgacdaaGreatDoor.Tp
set_option linter.unusedVariables false
abbrev Bs := List UInt8
def small (c : UInt8) : Bool := decide (97 ≤ c.toNat ∧ c.toNat ≤ 122)
def labC (c : UInt8) : Bool := small c || decide (48 ≤ c.toNat ∧ c.toNat ≤ 57) || decide (c.toNat = 45)
/-- is it a label? -/
def lab : Bs → Bool
  | [] => false
  | c :: s => small c && s.all labC && decide (s.length < 20)
/-- around the first c -/
def cutB (c : UInt8) : Bs → Bs × Bs × Bool
  | [] => ([], [], false)
  | x :: s => if x = c then ([], s, true) else (x :: (cutB c s).1, (cutB c s).2.1, (cutB c s).2.2)
theorem cutB_len (c : UInt8) : ∀ s, (cutB c s).2.1.length ≤ s.length
  | [] => Nat.le_refl _
  | x :: s => by
    rw [cutB]
    split
    · simp
    · have := cutB_len c s
      simp
      omega
theorem cutB_miss {c : UInt8} : ∀ {s : Bs}, (cutB c s).2.2 = false → (cutB c s).1 = s ∧ (cutB c s).2.1 = [] ∧ ∀ x, x ∈ s → x ≠ c
  | [], _ => ⟨rfl, rfl, fun x h => by cases h⟩
  | x :: s, h => by
    rw [cutB] at h ⊢
    split at h
    · cases h
    · rename_i hx
      obtain ⟨h1, h2, h3⟩ := cutB_miss h
      rw [if_neg hx]
      refine ⟨by simp [h1], h2, fun y hy => ?_⟩
      rcases List.mem_cons.1 hy with rfl | hy
      · exact hx
      · exact h3 y hy
theorem cutB_hit {c : UInt8} : ∀ {s : Bs}, (cutB c s).2.2 = true → s = (cutB c s).1 ++ c :: (cutB c s).2.1 ∧ ∀ x, x ∈ (cutB c s).1 → x ≠ c
  | [], h => by cases h
  | x :: s, h => by
    rw [cutB] at h ⊢
    split at h
    · rename_i hx
      rw [if_pos hx, hx]
      exact ⟨rfl, fun y hy => by cases hy⟩
    · rename_i hx
      obtain ⟨h1, h2⟩ := cutB_hit h
      rw [if_neg hx]
      refine ⟨by simp only [List.cons_append]; rw [← h1], fun y hy => ?_⟩
      rcases List.mem_cons.1 hy with rfl | hy
      · exact hx
      · exact h2 y hy
theorem index_one (c : UInt8) : ∀ s : Bs, Lib.index s [c] = if (cutB c s).2.2 then ((cutB c s).1.length : Int) else -1
  | [] => rfl
  | x :: s => by
    have ih := index_one c s
    rw [cutB]
    by_cases hx : x = c
    · subst hx
      simp [Lib.index]
    · simp only [if_neg hx]
      have hcx : ¬ c = x := fun e => hx e.symm
      have : Lib.index (x :: s) [c] = if Lib.index s [c] = -1 then -1 else Lib.index s [c] + 1 := by
        simp [Lib.index, hcx]
      rw [this, ih]
      cases hc : (cutB c s).2.2 with
      | false => simp
      | true =>
        simp
theorem cut_one (c : UInt8) (s : Bs) : Lib.cut s [c] = cutB c s := by
  unfold Lib.cut
  rw [index_one]
  cases hc : (cutB c s).2.2 with
  | false =>
    obtain ⟨h1, h2, _⟩ := cutB_miss hc
    rw [if_neg (by simp)]
    apply Prod.ext
    · exact h1.symm
    · apply Prod.ext
      · exact h2.symm
      · exact hc.symm
  | true =>
    obtain ⟨h1, _⟩ := cutB_hit hc
    obtain ⟨f, r, hf, hr⟩ : ∃ f r, (cutB c s).1 = f ∧ (cutB c s).2.1 = r := ⟨_, _, rfl, rfl⟩
    rw [hf, hr] at h1
    rw [if_pos rfl, hf, if_pos (by omega), Int.toNat_natCast]
    apply Prod.ext
    · rw [hf, h1]; simp
    · apply Prod.ext
      · rw [hr, h1]
        show List.drop (f.length + 1) (f ++ c :: r) = r
        rw [List.drop_append]
        simp
      · exact hc.symm
/-- the parts of a script: a text, or the name of a gap -/
structure Part where
  gap : Bool
  txt : Bs
def D : UInt8 := 36
def O : UInt8 := 123
def E : UInt8 := 125
/-- the parts, if it is a script; k bounds how far -/
def scrN (rec : Bs → Option (List Part)) (d : UInt8) (s' : Bs) : Option (List Part) :=
  if d = D then (rec s').map (⟨false, [D]⟩ :: ·) else
  if (cutB E (d :: s')).2.2 = true ∧ d = O ∧ lab ((cutB E (d :: s')).1.drop 1) = true then (rec (cutB E (d :: s')).2.1).map (⟨true, (cutB E (d :: s')).1.drop 1⟩ :: ·) else none
def scrK : Nat → Bs → Option (List Part)
  | 0, _ => none
  | k + 1, [] => some []
  | k + 1, [c] => if c ≠ D then (scrK k []).map (⟨false, [c]⟩ :: ·) else none
  | k + 1, c :: d :: s' => if c ≠ D then (scrK k (d :: s')).map (⟨false, [c]⟩ :: ·) else scrN (scrK k) d s'
theorem scrK_more : ∀ (k m : Nat) (s : Bs), s.length < k → k ≤ m → scrK m s = scrK k s
  | 0, m, s, h, _ => by omega
  | k + 1, 0, s, h, h2 => by omega
  | k + 1, m + 1, [], h, h2 => rfl
  | k + 1, m + 1, [c], h, h2 => by
    simp only [List.length_cons, List.length_nil] at h
    rw [scrK, scrK, scrK_more k m [] (by simp; omega) (by omega)]
  | k + 1, m + 1, c :: d :: s', h, h2 => by
    simp only [List.length_cons] at h
    have := cutB_len E (d :: s')
    simp only [List.length_cons] at this
    rw [scrK, scrK, scrN, scrN, scrK_more k m (d :: s') (by simp; omega) (by omega), scrK_more k m s' (by omega) (by omega), scrK_more k m (cutB E (d :: s')).2.1 (by omega) (by omega)]
def scr (s : Bs) : Option (List Part) := scrK (s.length + 1) s
theorem scrK_scr {k : Nat} {s : Bs} (h : s.length < k) : scrK k s = scr s := scrK_more (s.length + 1) k s (by omega) (by omega)
theorem scr_nil : scr [] = some [] := rfl
theorem scr_char {c : UInt8} {s : Bs} (h : c ≠ D) : scr (c :: s) = (scr s).map (⟨false, [c]⟩ :: ·) := by
  cases s with
  | nil => rw [scr, scrK, if_pos h]; rfl
  | cons d s' => rw [scr, scrK, if_pos h]; rfl
theorem scr_end : scr [D] = none := by decide
theorem scr_two (s : Bs) : scr (D :: D :: s) = (scr s).map (⟨false, [D]⟩ :: ·) := by
  have e : scr (D :: D :: s) = scrN (scrK (s.length + 1 + 1)) D s := by
    rw [scr, scrK, if_neg (fun h => h rfl)]; rfl
  rw [e, scrN, if_pos rfl, scrK_scr (by omega)]
theorem scr_gap {d : UInt8} {s : Bs} (hd : d ≠ D) : scr (D :: d :: s) = if (cutB E (d :: s)).2.2 = true ∧ d = O ∧ lab ((cutB E (d :: s)).1.drop 1) = true then (scr (cutB E (d :: s)).2.1).map (⟨true, (cutB E (d :: s)).1.drop 1⟩ :: ·) else none := by
  have e : scr (D :: d :: s) = scrN (scrK (s.length + 1 + 1)) d s := by
    rw [scr, scrK, if_neg (fun h => h rfl)]; rfl
  have := cutB_len E (d :: s)
  simp only [List.length_cons] at this
  rw [e, scrN, if_neg hd, scrK_scr (by omega)]
/-- a text ahead of what follows -/
theorem scr_text : ∀ (f : Bs) (s : Bs), (∀ x, x ∈ f → x ≠ D) → scr (f ++ s) = (scr s).map (f.map (fun c => ⟨false, [c]⟩) ++ ·)
  | [], s, _ => by simp
  | c :: f, s, h => by
    rw [List.cons_append, scr_char (h c (by simp)), scr_text f s (fun x hx => h x (by simp [hx]))]
    cases scr s <;> simp
/-- the names of the gaps, each once, in the order in which they come -/
def gapsA (acc : List Bs) : List Part → List Bs
  | [] => acc
  | p :: l => gapsA (if p.gap = true ∧ p.txt ∉ acc then acc ++ [p.txt] else acc) l
/-- what the parts are filled to -/
def fill (by' : Bs → Bs) : List Part → Bs
  | [] => []
  | p :: l => (if p.gap then by' p.txt else p.txt) ++ fill by' l
theorem fill_append (by' : Bs → Bs) (a b : List Part) : fill by' (a ++ b) = fill by' a ++ fill by' b := by
  induction a with
  | nil => rfl
  | cons p a ih => simp [fill, ih]
theorem fill_text (by' : Bs → Bs) (f : Bs) : fill by' (f.map fun c => ⟨false, [c]⟩) = f := by
  induction f with
  | nil => rfl
  | cons c f ih => simp [fill, ih]
theorem gapsA_text (acc : List Bs) (f : Bs) (l : List Part) : gapsA acc (f.map (fun c => ⟨false, [c]⟩) ++ l) = gapsA acc l := by
  induction f with
  | nil => rfl
  | cons c f ih => simp [gapsA, ih]
end Go.Proofs.YtkemlckmfgacdaaGreatDoor.Tp
/- Texts as lists of bytes. -/
namespace Go.Proofs.YtkemlckmfgacdaaGreatDoor
set_option linter.unusedVariables false
def lst (s : ByteArray) : List UInt8 := s.data.toList
theorem lst_len (s : ByteArray) : (lst s).length = s.size := by
  unfold lst
  exact Array.length_toList
theorem lst_at {s : ByteArray} {j : Nat} {c : UInt8} (h : (lst s)[j]? = some c) (hj : j < s.size) : s[j]'hj = c := by
  have := (List.getElem?_eq_some_iff.1 h)
  obtain ⟨h1, h2⟩ := this
  rw [← h2]
  rfl
end Go.Proofs.YtkemlckmfgacdaaGreatDoor
/- Contracts: is a text a label? The document's. -/
namespace Go.Proofs.YtkemlckmfgacdaaGreatDoor
open Go.ChangeShapes Go.WideShapes Go.ChangeAt Go.RowKit
set_option linter.unusedVariables false
open Tp
namespace Tp
def PG (L : Bs) (j : Nat) : Prop := ∀ i c, i < j → L[i]? = some c → labC c = true ∧ (i = 0 → small c = true)
theorem PG.zero (L : Bs) : PG L 0 := fun i c h => absurd h (by omega)
theorem PG.succ {L : Bs} {j : Nat} {c : UInt8} (h : PG L j) (hj : L[j]? = some c) (h1 : labC c = true) (h2 : j = 0 → small c = true) : PG L (j + 1) := fun i c' hi hc' => by
  by_cases e : i = j
  · subst e; rw [hj] at hc'; cases hc'; exact ⟨h1, h2⟩
  · exact h i c' (by omega) hc'
theorem lab_true {L : Bs} (h1 : 1 ≤ L.length) (h2 : L.length ≤ 20) (h : PG L L.length) : lab L = true := by
  cases L with
  | nil => simp at h1
  | cons c s =>
    have hc := h 0 c (by simp) rfl
    have hs : s.all labC = true := List.all_eq_true.2 fun x hx => by
      obtain ⟨i, hi, rfl⟩ := List.getElem_of_mem hx
      exact (h (i + 1) s[i] (by simpa using hi) (by simp)).1
    simp only [List.length_cons] at h2
    rw [lab, hc.2 rfl, hs]
    simp
    omega
theorem lab_len {L : Bs} (h : L.length < 1 ∨ 20 < L.length) : lab L = false := by
  cases L with
  | nil => rfl
  | cons c s =>
    simp only [List.length_cons] at h
    rw [lab]
    have : decide (s.length < 20) = false := by simp; omega
    rw [this]; simp
theorem lab_bad {L : Bs} {j : Nat} {c : UInt8} (hj : L[j]? = some c) (h : labC c = false ∨ (j = 0 ∧ small c = false)) : lab L = false := by
  cases L with
  | nil => rfl
  | cons d s =>
    rw [lab]
    cases j with
    | zero =>
      have e : d = c := by simpa using hj
      subst e
      have : small d = false := by
        rcases h with h | h
        · unfold labC at h
          cases hs : small d with
          | false => rfl
          | true => rw [hs] at h; simp at h
        · exact h.2
      rw [this]; rfl
    | succ j =>
      have hc : labC c = false := by
        rcases h with h | h
        · exact h
        · omega
      have hj' : s[j]? = some c := by simpa using hj
      have : s.all labC = false := by
        cases ha : s.all labC with
        | false => rfl
        | true => rw [List.all_eq_true.1 ha c (List.mem_of_getElem? hj')] at hc; cases hc
      rw [this]; simp
end Tp
set_option maxRecDepth 20000 in
set_option maxHeartbeats 4000000 in
theorem gLabel_any (s : ByteArray) (w : World) (hs : s.size ≤ 9223372036854775807) : Calls Tryz.prog 35 #[.string s] w fun e w' => e = .returned (.bool (lab (lst s))) ∧ Below w.heap.size w w' := by
  obtain ⟨n, hn⟩ : ∃ n, s.size = n := ⟨_, rfl⟩
  have HN := Lib.hid hn
  rw [hn] at hs
  go_enter Tryz.func35, Tryz.ntmps35
  go_wp2_with fail
  go_loopg [7] n (fun g y wr => ∃ j : Nat, j + g = n ∧ y = .int .i64 (j : Int) ∧ Hid (PG (lst s) j) ∧ Hid (Below w.heap.size w wr))
  case atStart => exact ⟨0, by omega, rfl, Lib.hid (PG.zero _), Lib.hid (Below.refl _ _)⟩
  case round =>
    obtain ⟨j, hj, rfl, HP, HB⟩ := hrel
    by_cases hjn : j < n
    · obtain ⟨c, hc⟩ : ∃ c, (lst s)[j]? = some c := ⟨_, List.getElem?_eq_getElem (by rw [lst_len, hn]; exact hjn)⟩
      have hjs : j < s.size := by omega
      obtain ⟨z, hz⟩ : ∃ z : Int, (c.toNat : Int) = z := ⟨_, rfl⟩
      have gj : ∀ h : j < s.size, ((s[j]'h).toNat : Int) = z := fun h => by rw [lst_at hc h]; exact hz
      have hj1 : (0 : Int) ≤ (j : Int) := by omega
      have hj2 : (j : Int) < (n : Int) := by omega
      have hz0 : 0 ≤ z := by omega
      have HC := Lib.hid hc
      have HZ := Lib.hid hz
      have HSM : Hid (small c = decide (97 ≤ z ∧ z ≤ 122)) := Lib.hid (by rw [small]; congr 1; apply propext; omega)
      have HLC : Hid (labC c = (decide (97 ≤ z ∧ z ≤ 122) || decide (48 ≤ z ∧ z ≤ 57) || decide (z = 45))) := Lib.hid (by
        rw [labC, HSM.out]
        congr 1
        · congr 1; apply decide_eq_decide.2; omega
        · apply decide_eq_decide.2; omega)
      clear hc hz
      by_cases hsm : 97 ≤ z ∧ z ≤ 122
      · obtain ⟨s1, s2⟩ := hsm
        have HQ : Hid (PG (lst s) (j + 1)) := Lib.hid (HP.out.succ HC.out (by rw [HLC.out]; first | (simp; done) | (simp; omega)) (fun h => by first | omega | (rw [HSM.out]; simp; omega)))
        go_wp2_with fail
        go_roundg (n - (j + 1))
        case measure => omega
        case rel => exact ⟨j + 1, by omega, by simp, HQ, HB⟩
      have hcase : (j = 0 ∧ z < 97) ∨ (j = 0 ∧ 97 ≤ z ∧ 122 < z) ∨ (0 < j ∧ z < 97 ∧ z = 45) ∨ (0 < j ∧ z < 97 ∧ z ≠ 45 ∧ z < 48) ∨ (0 < j ∧ z < 97 ∧ z ≠ 45 ∧ 48 ≤ z ∧ z ≤ 57) ∨ (0 < j ∧ z < 97 ∧ z ≠ 45 ∧ 57 < z) ∨ (0 < j ∧ 97 ≤ z ∧ 122 < z) := by omega
      clear hsm
      rcases hcase with ⟨rfl, t1⟩ | ⟨rfl, t1, t2⟩ | ⟨t0, t1, rfl⟩ | ⟨t0, t1, t2, t3⟩ | ⟨t0, t1, t2, t3, t4⟩ | ⟨t0, t1, t2, t3⟩ | ⟨t0, t1, t2⟩
      · have HV : Hid (lab (lst s) = false) := Lib.hid (lab_bad HC.out (by right; exact ⟨by omega, by rw [HSM.out]; simp; omega⟩))
        go_wp2_with fail
        go_ret
        exact ⟨ret_bool HV.out.symm, HB.out⟩
      · have hz122 : ¬ z ≤ 122 := by omega
        have HV : Hid (lab (lst s) = false) := Lib.hid (lab_bad HC.out (by right; exact ⟨by omega, by rw [HSM.out]; simp; omega⟩))
        go_wp2_with fail
        go_ret
        exact ⟨ret_bool HV.out.symm, HB.out⟩
      · have hj0 : ((j : Int) == 0) = false := by simp; omega
        have HQ : Hid (PG (lst s) (j + 1)) := Lib.hid (HP.out.succ HC.out (by rw [HLC.out]; first | (simp; done) | (simp; omega)) (fun h => by first | omega | (rw [HSM.out]; simp; omega)))
        go_wp2_with fail
        go_roundg (n - (j + 1))
        case measure => omega
        case rel => exact ⟨j + 1, by omega, by simp, HQ, HB⟩
      · have hj0 : ((j : Int) == 0) = false := by simp; omega
        have hz45 : (z != 45) = true := by simpa using t2
        have HV : Hid (lab (lst s) = false) := Lib.hid (lab_bad HC.out (by left; rw [HLC.out]; simp; omega))
        go_wp2_with fail
        go_ret
        exact ⟨ret_bool HV.out.symm, HB.out⟩
      · have hj0 : ((j : Int) == 0) = false := by simp; omega
        have hz45 : (z != 45) = true := by simpa using t2
        have HQ : Hid (PG (lst s) (j + 1)) := Lib.hid (HP.out.succ HC.out (by rw [HLC.out]; first | (simp; done) | (simp; omega)) (fun h => by first | omega | (rw [HSM.out]; simp; omega)))
        go_wp2_with fail
        go_roundg (n - (j + 1))
        case measure => omega
        case rel => exact ⟨j + 1, by omega, by simp, HQ, HB⟩
      · have hj0 : ((j : Int) == 0) = false := by simp; omega
        have hz45 : (z != 45) = true := by simpa using t2
        have HV : Hid (lab (lst s) = false) := Lib.hid (lab_bad HC.out (by left; rw [HLC.out]; simp; omega))
        go_wp2_with fail
        go_ret
        exact ⟨ret_bool HV.out.symm, HB.out⟩
      · have hj0 : ((j : Int) == 0) = false := by simp; omega
        have hz45 : (z != 45) = true := by simp; omega
        have hz122 : ¬ z ≤ 122 := by omega
        have HV : Hid (lab (lst s) = false) := Lib.hid (lab_bad HC.out (by left; rw [HLC.out]; simp; omega))
        go_wp2_with fail
        go_ret
        exact ⟨ret_bool HV.out.symm, HB.out⟩
    · obtain rfl : j = n := by omega
      by_cases h1 : j < 1
      · have HV : Hid (lab (lst s) = false) := Lib.hid (lab_len (by rw [lst_len, HN.out]; omega))
        have h1b : ¬ (1 : Int) ≤ (j : Int) := by omega
        go_wp2_with fail
        go_ret
        exact ⟨ret_bool HV.out.symm, HB.out⟩
      · by_cases h2 : 20 < j
        · have HV : Hid (lab (lst s) = false) := Lib.hid (lab_len (by rw [lst_len, HN.out]; omega))
          have h1b : (1 : Int) ≤ (j : Int) := by omega
          have h2b : ¬ (j : Int) ≤ 20 := by omega
          go_wp2_with fail
          go_ret
          exact ⟨ret_bool HV.out.symm, HB.out⟩
        · have HV : Hid (lab (lst s) = true) := Lib.hid (lab_true (by rw [lst_len, HN.out]; omega) (by rw [lst_len, HN.out]; omega) (by rw [lst_len, HN.out]; exact HP.out))
          have h1b : (1 : Int) ≤ (j : Int) := by omega
          have h2b : (j : Int) ≤ 20 := by omega
          go_wp2_with fail
          go_ret
          exact ⟨ret_bool HV.out.symm, HB.out⟩
end Go.Proofs.YtkemlckmfgacdaaGreatDoor
/- Contracts: is a text a label? The program's. -/
namespace Go.Proofs.YtkemlckmfgacdaaGreatDoor
open Go.ChangeShapes Go.WideShapes Go.ChangeAt Go.RowKit
set_option linter.unusedVariables false
open Tp
/-- the bytes of a text stand in the first block past w -/
def LabRow (s : ByteArray) (w wr : World) : Prop := Below w.heap.size w wr ∧ ∀ j c, (lst s)[j]? = some c → wr.cell? ⟨w.heap.size, j, none⟩ = some (.int .u8 (c.toNat : Int))
theorem labRow_start (w : World) (s : ByteArray) (c : Nat) (t : TypeId) (fr : Nat × Nat) : LabRow s w (w.alloc (.cells (bytesRow s c) t fr)).drew := by
  refine ⟨by go_grown, fun j d hj => ?_⟩
  show (w.alloc (.cells (bytesRow s c) t fr)).cell? ⟨w.heap.size, j, none⟩ = _
  have hj' : j < s.data.size := by
    have := (List.getElem?_eq_some_iff.1 hj).1
    rw [lst_len] at this; exact this
  rw [World.cell?_alloc_mark, bytesRow_at s c j hj', ← lst_at hj hj']
  rfl
set_option maxRecDepth 20000 in
set_option maxHeartbeats 4000000 in
theorem Label_any (s : ByteArray) (w : World) (hs : s.size ≤ 9223372036854775807) : Calls Tryz.prog 38 #[.string s] w fun e w' => e = .returned (.bool (lab (lst s))) ∧ Below w.heap.size w w' := by
  obtain ⟨n, hn⟩ : ∃ n, s.size = n := ⟨_, rfl⟩
  have HN := Lib.hid hn
  rw [hn] at hs
  by_cases h0 : n = 0
  · have HV : Hid (lab (lst s) = false) := Lib.hid (lab_len (by rw [lst_len, HN.out]; omega))
    obtain rfl : s = ⟨#[]⟩ := by
      cases s with
      | mk d => congr 1; exact Array.eq_empty_of_size_eq_zero (by rw [← h0]; exact hn)
    go_enter Tryz.func38, Tryz.ntmps38
    go_wp2_with fail
    go_ret
    exact ⟨ret_bool HV.out.symm, Below.refl _ _⟩
  have hne : ¬ s.toList = [] := fun h => h0 (by
    have e : s.toList.length = s.size := by rw [ByteArray.toList_eq]; exact lst_len s
    rw [← hn, ← e, h]; rfl)
  by_cases h20 : 20 < n
  · have HV : Hid (lab (lst s) = false) := Lib.hid (lab_len (by rw [lst_len, HN.out]; omega))
    go_enter Tryz.func38, Tryz.ntmps38
    go_wp2_with fail
    go_ret
    exact ⟨ret_bool HV.out.symm, Below.refl _ _⟩
  have hne2 : s.toList.isEmpty = false := by
    cases h : s.toList with
    | nil => exact absurd h hne
    | cons _ _ => rfl
  obtain ⟨c, hc⟩ : ∃ c, (lst s)[0]? = some c := ⟨_, List.getElem?_eq_getElem (by rw [lst_len, hn]; omega)⟩
  obtain ⟨z, hz⟩ : ∃ z : Int, (c.toNat : Int) = z := ⟨_, rfl⟩
  have gj : ∀ h : 0 < s.size, ((s[0]'h).toNat : Int) = z := fun h => by rw [lst_at hc h]; exact hz
  have hz0 : 0 ≤ z := by omega
  have hb1 : ¬ (n : Int) > 20 := by omega
  have HC := Lib.hid hc
  have HZ := Lib.hid hz
  have HSM : Hid (small c = decide (97 ≤ z ∧ z ≤ 122)) := Lib.hid (by rw [small]; congr 1; apply propext; omega)
  clear hc hz
  by_cases hsm : 97 ≤ z ∧ z ≤ 122
  · obtain ⟨s1, s2⟩ := hsm
    have hcv := fun w => run_bytes_of_string (P := Tryz.prog) w 9 41 5 s Tryz.underlying9 Tryz.underlying41 Tryz.underlying5
    have H0 : Hid (∀ d, (lst s)[0]? = some d → small d = true) := Lib.hid (fun d hd => by
      have := HC.out; rw [hd] at this; cases this; rw [HSM.out]; simp; omega)
    clear HC HZ HSM
    go_enter Tryz.func38, Tryz.ntmps38
    go_wp2_with fail
    go_loopg [25] n (fun g y wr => ∃ j : Nat, j + g = n ∧ y = .int .i64 (j : Int) ∧ Hid (PG (lst s) j) ∧ LabRow s w wr)
    case atStart => exact ⟨0, by omega, rfl, Lib.hid (PG.zero _), labRow_start w s _ _ _⟩
    case round =>
      obtain ⟨j, hj, rfl, HP, hB, hrow⟩ := hrel
      by_cases hjn : j < n
      · obtain ⟨c, hc⟩ : ∃ c, (lst s)[j]? = some c := ⟨_, List.getElem?_eq_getElem (by rw [lst_len, HN.out]; exact hjn)⟩
        have hr := hrow j c hc
        have HR := Lib.hid hrow
        have HB := Lib.hid hB
        have hbh := hB.1
        obtain ⟨z, hz⟩ : ∃ z : Int, (c.toNat : Int) = z := ⟨_, rfl⟩
        rw [hz] at hr
        have hj1 : (0 : Int) ≤ (j : Int) := by omega
        have hj2 : (j : Int) < (n : Int) := by omega
        have hz0 : 0 ≤ z := by omega
        have HC := Lib.hid hc
        have HSM : Hid (small c = decide (97 ≤ z ∧ z ≤ 122)) := Lib.hid (by rw [small]; congr 1; apply propext; omega)
        have HLC : Hid (labC c = (decide (97 ≤ z ∧ z ≤ 122) || decide (48 ≤ z ∧ z ≤ 57) || decide (z = 45))) := Lib.hid (by
          rw [labC, HSM.out]
          congr 1
          · congr 1; apply decide_eq_decide.2; omega
          · apply decide_eq_decide.2; omega)
        clear hc hz hrow hB
        by_cases hlc : labC c = true
        · have HQ : Hid (PG (lst s) (j + 1)) := Lib.hid (HP.out.succ HC.out hlc (fun h => by subst h; exact H0.out c HC.out))
          rw [HLC.out] at hlc
          have hcase : (97 ≤ z ∧ z ≤ 122) ∨ (z < 97 ∧ 48 ≤ z ∧ z ≤ 57) ∨ (z = 45) := by
            simp at hlc; omega
          rcases hcase with ⟨t1, t2⟩ | ⟨t1, t2, t3⟩ | rfl
          · go_wp2_with fail
            go_roundg (n - (j + 1))
            case measure => omega
            case rel => exact ⟨j + 1, by omega, by simp, HQ, HB.out, HR.out⟩
          · go_wp2_with fail
            go_roundg (n - (j + 1))
            case measure => omega
            case rel => exact ⟨j + 1, by omega, by simp, HQ, HB.out, HR.out⟩
          · go_wp2_with fail
            go_roundg (n - (j + 1))
            case measure => omega
            case rel => exact ⟨j + 1, by omega, by simp, HQ, HB.out, HR.out⟩
        · have HV : Hid (lab (lst s) = false) := Lib.hid (lab_bad HC.out (by left; simpa using hlc))
          rw [HLC.out] at hlc
          have hcase : (z < 97 ∧ z < 48 ∧ z ≠ 45) ∨ (z < 97 ∧ 57 < z) ∨ (97 ≤ z ∧ 122 < z) := by
            simp at hlc; omega
          clear hlc
          rcases hcase with ⟨t1, t2, t3⟩ | ⟨t1, t2⟩ | ⟨t1, t2⟩
          · have hz45 : (z != 45) = true := by simpa using t3
            go_wp2_with fail
            go_ret
            exact ⟨ret_bool HV.out.symm, HB.out⟩
          · have hz45 : (z != 45) = true := by simp; omega
            have hz48 : ¬ z < 48 := by omega
            go_wp2_with fail
            go_ret
            exact ⟨ret_bool HV.out.symm, HB.out⟩
          · have hz45 : (z != 45) = true := by simp; omega
            have hz48 : ¬ z < 48 := by omega
            have hz57 : 57 < z := by omega
            go_wp2_with fail
            go_ret
            exact ⟨ret_bool HV.out.symm, HB.out⟩
      · obtain rfl : j = n := by omega
        have HV : Hid (lab (lst s) = true) := Lib.hid (lab_true (by rw [lst_len, HN.out]; omega) (by rw [lst_len, HN.out]; omega) (by rw [lst_len, HN.out]; exact HP.out))
        have HB := Lib.hid hB
        clear hB hrow
        go_wp2_with fail
        go_ret
        exact ⟨ret_bool HV.out.symm, HB.out⟩
  · have HV : Hid (lab (lst s) = false) := Lib.hid (lab_bad HC.out (by right; exact ⟨rfl, by rw [HSM.out]; simp; omega⟩))
    by_cases h1 : z < 97
    · go_enter Tryz.func38, Tryz.ntmps38
      go_wp2_with fail
      go_ret
      exact ⟨ret_bool HV.out.symm, Below.refl _ _⟩
    · have h2 : 122 < z := by omega
      go_enter Tryz.func38, Tryz.ntmps38
      go_wp2_with fail
      go_ret
      exact ⟨ret_bool HV.out.symm, Below.refl _ _⟩
end Go.Proofs.YtkemlckmfgacdaaGreatDoor
/- Rows that a call makes and grows: what stays of them, how they read, an append of one thing. -/
namespace Go.Proofs.YtkemlckmfgacdaaGreatDoor
open Go.ChangeShapes Go.WideShapes Go.ChangeAt Go.RowKit
set_option linter.unusedVariables false
/-- cells one behind the other, at an address -/
def Vals (w : World) (a : Option Addr) (xs : List Value) : Prop := 0 < xs.length → ∃ b off, a = some ⟨b, off, none⟩ ∧ b < w.heap.size ∧ ∀ i v, xs[i]? = some v → w.cell? ⟨b, off + i, none⟩ = some v
theorem Vals.below {w w' : World} {a : Option Addr} {xs : List Value} (h : Vals w a xs) {B : Nat} (hb : Below B w w') (hB : w.heap.size ≤ B) : Vals w' a xs := fun hl => by
  obtain ⟨b, off, e, h1, h2⟩ := h hl
  exact ⟨b, off, e, Nat.lt_of_lt_of_le h1 hb.size, fun i v hi => (hb.cell (p := ⟨b, _, none⟩) (by show b < B; omega)).trans (h2 i v hi)⟩
theorem Vals.nil (w : World) (a : Option Addr) : Vals w a [] := fun h => absurd h (by simp)
/-- a slice value that reads as a list of cells of one each -/
def IsVals (w : World) (v : Value) (xs : List Value) : Prop := ∃ a cap, v = .slice a xs.length cap ∧ Vals w a xs
theorem IsVals.below {w w' : World} {v : Value} {xs : List Value} (h : IsVals w v xs) {B : Nat} (hb : Below B w w') (hB : w.heap.size ≤ B) : IsVals w' v xs := by
  obtain ⟨a, cap, e, h2⟩ := h
  exact ⟨a, cap, e, h2.below hb hB⟩
theorem IsVals.empty (w : World) : IsVals w (.slice none 0 0) [] := ⟨none, 0, rfl, Vals.nil _ _⟩
theorem IsVals.own {w : World} {base n : Nat} {e : TypeId} {v : Value} {xs : List Value} (h : w.ownsRow base e 1 v n xs) : IsVals w v xs := by
  have hl : xs.length = n := by simpa using h.1
  rcases h.2 with ⟨rfl, rfl⟩ | ⟨g, cap, cur, rfl, hb, hg, hn, hc, hs, ht⟩
  · have : xs = [] := List.eq_nil_of_length_eq_zero hl
    subst this
    exact .empty _
  · refine ⟨_, cap, by rw [hl], fun hp => ⟨g, 0, rfl, (Array.getElem?_eq_some_iff.1 hg).1, fun i x hi => ?_⟩⟩
    have := h.cells (g := g) rfl i x hi
    rw [Nat.zero_add]
    rwa [show (⟨g, 0, none⟩ : Addr).add i = ⟨g, i, none⟩ from by unfold Addr.add; split <;> simp_all] at this
theorem rowIs_lt {w : World} {b : Nat} {t : TypeId} {n : Nat} {f : Nat → Value} (h : w.rowIs b t n f) : b < w.heap.size := h.lt
theorem rowIs_below {w w' : World} {b : Nat} {t : TypeId} {n : Nat} {f : Nat → Value} (h : w.rowIs b t n f) {B : Nat} (hb : Below B w w') (hB : b < B) : w'.rowIs b t n f := h.of_block (hb.block b hB)
theorem rowIs_grown {w w' : World} {b : Nat} {t : TypeId} {n : Nat} {f : Nat → Value} (h : w.rowIs b t n f) {row : Option Nat} (hg : w.grownBy w' row) (hr : some b ≠ row) : w'.rowIs b t n f := h.of_block (hg.block b h.lt hr)
theorem IsVals.row {w : World} {b : Nat} {t : TypeId} {n cap : Nat} {f : Nat → Value} (h : w.rowIs b t n f) : IsVals w (.slice (some ⟨b, 0, none⟩) n cap) ((List.range n).map f) := by
  refine ⟨_, cap, by simp, fun hp => ⟨b, 0, rfl, h.lt, fun i x hi => ?_⟩⟩
  have hi2 : i < n := by
    have := (List.getElem?_eq_some_iff.1 hi).1
    simpa using this
  rw [List.getElem?_map, List.getElem?_range hi2] at hi
  simp only [Option.map_some, Option.some.injEq] at hi
  rw [Nat.zero_add, ← hi]
  exact h.cell hi2
theorem ownsRow_below {w w' : World} {base n size : Nat} {e : TypeId} {v : Value} {xs : List Value} (h : w.ownsRow base e size v n xs) (hb : Below w.heap.size w w') : w'.ownsRow base e size v n xs := by
  refine ⟨h.1, ?_⟩
  rcases h.2 with hn | ⟨g, cap, cur, rfl, hbg, hg, rest⟩
  · exact .inl hn
  · refine .inr ⟨g, cap, cur, rfl, hbg, ?_, rest⟩
    rw [hb.block g (Array.getElem?_eq_some_iff.1 hg).1]
    exact hg
theorem ownsRow_low {w : World} {base n size : Nat} {e : TypeId} {v : Value} {xs : List Value} (h : w.ownsRow base e size v n xs) {base' : Nat} (hb : base' ≤ base) : w.ownsRow base' e size v n xs := by
  refine ⟨h.1, ?_⟩
  rcases h.2 with hn | ⟨g, cap, cur, rfl, hbg, rest⟩
  · exact .inl hn
  · exact .inr ⟨g, cap, cur, rfl, by omega, rest⟩
theorem grownBy_alloc_trans {w w' : World} {o : Obj} {row : Option Nat} (h : (w.alloc o).grownBy w' row) : w.grownBy w' row :=
  ⟨h.os, h.tape, h.output, by have := h.size; simp at this; omega, fun k hk hr => (h.block k (by simp; omega) hr).trans (Below.heap_alloc w o k hk)⟩
theorem ownBlock_ge {w : World} {base n size : Nat} {e : TypeId} {v : Value} {xs : List Value} (h : w.ownsRow base e size v n xs) {B : Nat} (hB : B ≤ base) : ∀ k, v.ownBlock = some k → B ≤ k := fun k hk => by have := (h.lt k hk).1; omega
theorem ownBlock_ne {w : World} {base n size : Nat} {e : TypeId} {v : Value} {xs : List Value} (h : w.ownsRow base e size v n xs) {B : Nat} (hB : B < base) : some B ≠ v.ownBlock := fun hk => by have := (h.lt B hk.symm).1; omega
theorem rowIs_made_at (w : World) (z : Value) (n : Nat) (t : TypeId) {H : Nat} (h : w.heap.size = H) : (w.alloc (.cells (madeCells #[z] n) t)).rowIs H t n (fun _ => z) := h ▸ World.rowIs_made w z n t
/-- 'out = append(out, u)', one cell: u lies in the block that was made last -/
theorem wpList_push {P : Program} (w : World) {ops : Array Oper} {rest : List Oper} {o : Oper} {a : Act} {Q : Exit → Act → World → Prop} (hgd : o.guard = none) (s x : Operand) (t : TypeId)
    (ho : o.op = .call { callee := .builtin .append, args := #[s, x], argTypes := #[t, t] })
    (base : Nat) (e : TypeId) (z : Value) (bytes : Nat) (ht : P.underlying t = some (.slice e)) (hinfo : (P.info? e).map (fun i => (i.zero, i.size, i.bytes)) = some (some z, 1, bytes)) (hz1 : z.cells.size = 1)
    (v : Value) (n : Nat) (xs : List Value) (u : Value) (H : Nat) (hH : w.heap.size = H) (hs : a.eval s = v) (hown : w.ownsRow base e 1 v n xs) (hx : a.eval x = .slice (some ⟨H, 0, none⟩) 1 1) (hu : u.oneCell' = true)
    (h63 : n + 1 ≤ maxLen) (hbytes : (n + 1) * bytes ≤ 140737488355328) (hbase : base ≤ w.heap.size)
    (h : ∀ g cap w', w'.ownsRow base e 1 (.slice (some ⟨g, 0, none⟩) (n + 1) cap) (n + 1) (xs ++ [u]) → w.grownBy w' v.ownBlock → (v.ownBlock = some g ∨ w.heap.size ≤ g) → g < w'.heap.size → wpList P ops Q rest (a.put o.dst (.slice (some ⟨g, 0, none⟩) (n + 1) cap)) w') : wpList P ops Q (o :: rest) a (w.alloc (.cells #[u] e)) := by
  obtain ⟨i, hi, hz0, hzs, hzb⟩ := info_parts hinfo
  subst hH
  refine wpList_append_lies (w.alloc (.cells #[u] e)) hgd s x t ho base e i z 1 bytes ht hi hz0 hzs hzb hz1 (by decide) v n xs hs (hown.alloc _) ⟨w.heap.size, 0, none⟩ 1 1 [u] hx rfl ?_ (by simpa using hu) (by decide) h63 hbytes (by simp; omega) _ rfl ?_
  · have := World.news_of_block (heap_alloc_new w (.cells #[u] e))
    exact this
  · intro g cap w' h1 h2 h3 h4
    exact h g cap w' h1 (grownBy_alloc_trans h2) (h3.imp id fun e => by rw [e]; simp) h4
/-- 'out = append(out, u)', a struct of some cells: they lie in the block that was made last -/
theorem wpList_pushN {P : Program} (w : World) {ops : Array Oper} {rest : List Oper} {o : Oper} {a : Act} {Q : Exit → Act → World → Prop} (hgd : o.guard = none) (s x : Operand) (t : TypeId)
    (ho : o.op = .call { callee := .builtin .append, args := #[s, x], argTypes := #[t, t] })
    (base : Nat) (e : TypeId) (z : Value) (size bytes : Nat) (ht : P.underlying t = some (.slice e)) (hinfo : (P.info? e).map (fun i => (i.zero, i.size, i.bytes)) = some (some z, size, bytes)) (hz1 : z.cells.size = size) (hsz : 0 < size)
    (v : Value) (n : Nat) (xs us : List Value) (H : Nat) (hH : w.heap.size = H) (hs : a.eval s = v) (hown : w.ownsRow base e size v n xs) (hx : a.eval x = .slice (some ⟨H, 0, none⟩) 1 1) (hul : us.length = size) (hu : ∀ u ∈ us, u.oneCell' = true)
    (h63 : n + 1 ≤ maxLen) (hbytes : (n + 1) * bytes ≤ 140737488355328) (hbase : base ≤ w.heap.size)
    (h : ∀ g cap w', w'.ownsRow base e size (.slice (some ⟨g, 0, none⟩) (n + 1) cap) (n + 1) (xs ++ us) → w.grownBy w' v.ownBlock → (v.ownBlock = some g ∨ w.heap.size ≤ g) → g < w'.heap.size → wpList P ops Q rest (a.put o.dst (.slice (some ⟨g, 0, none⟩) (n + 1) cap)) w') : wpList P ops Q (o :: rest) a (w.alloc (.cells us.toArray e)) := by
  obtain ⟨i, hi, hz0, hzs, hzb⟩ := info_parts hinfo
  subst hH
  refine wpList_append_lies (w.alloc (.cells us.toArray e)) hgd s x t ho base e i z size bytes ht hi hz0 hzs hzb hz1 hsz v n xs hs (hown.alloc _) ⟨w.heap.size, 0, none⟩ 1 1 us hx (by omega) ?_ hu (by decide) h63 hbytes (by simp; omega) _ rfl ?_
  · have := World.news_of_block (heap_alloc_new w (.cells us.toArray e))
    exact this
  · intro g cap w' h1 h2 h3 h4
    exact h g cap w' h1 (grownBy_alloc_trans h2) (h3.imp id fun e => by rw [e]; simp) h4
/-- a slice value that reads as a row of structs of some cells each -/
def IsRow (w : World) (v : Value) (n : Nat) (xs : List Value) : Prop := ∃ a cap, v = .slice a n cap ∧ Vals w a xs
theorem IsRow.below {w w' : World} {v : Value} {n : Nat} {xs : List Value} (h : IsRow w v n xs) {B : Nat} (hb : Below B w w') (hB : w.heap.size ≤ B) : IsRow w' v n xs := by
  obtain ⟨a, cap, e, h2⟩ := h
  exact ⟨a, cap, e, h2.below hb hB⟩
theorem IsRow.own {w : World} {base n size : Nat} {e : TypeId} {v : Value} {xs : List Value} (hsz : 0 < size) (h : w.ownsRow base e size v n xs) : IsRow w v n xs := by
  rcases h.2 with ⟨rfl, rfl⟩ | ⟨g, cap, cur, rfl, hb, hg, hn, hc, hs, ht⟩
  · have : xs = [] := List.eq_nil_of_length_eq_zero (by have := h.1; omega)
    subst this
    exact ⟨_, _, rfl, Vals.nil _ _⟩
  · refine ⟨_, cap, rfl, fun hp => ⟨g, 0, rfl, (Array.getElem?_eq_some_iff.1 hg).1, fun i x hi => ?_⟩⟩
    have := h.cells (g := g) rfl i x hi
    rw [Nat.zero_add]
    rwa [show (⟨g, 0, none⟩ : Addr).add i = ⟨g, i, none⟩ from by unfold Addr.add; split <;> simp_all] at this
/-- a grown row of the call's own, by its indices -/
def ownF (w : World) (H g cap n : Nat) (E : TypeId) (f : Nat → Value) : Prop := w.ownsRow H E 1 (.slice (some ⟨g, 0, none⟩) n cap) n ((List.range n).map f)
theorem ownF.cell {w : World} {H g cap n : Nat} {E : TypeId} {f : Nat → Value} (h : ownF w H g cap n E f) {i : Nat} (hi : i < n) : w.cell? ⟨g, i, none⟩ = some (f i) := by
  have := h.cells (g := g) rfl i (f i) (by rw [List.getElem?_map, List.getElem?_range hi]; rfl)
  rwa [show (⟨g, 0, none⟩ : Addr).add i = ⟨g, i, none⟩ from by unfold Addr.add; split <;> simp_all] at this
theorem ownF.frozen {w : World} {H g cap n : Nat} {E : TypeId} {f : Nat → Value} (h : ownF w H g cap n E f) (i : Nat) : w.frozen? ⟨g, i, none⟩ = false := h.frozenAt i
theorem ownF.congr {w : World} {H g cap n : Nat} {E : TypeId} {f f' : Nat → Value} (h : ownF w H g cap n E f) (e : ∀ i, i < n → f i = f' i) : ownF w H g cap n E f' := by
  unfold ownF
  rw [← List.map_congr_left fun i hi => e i (List.mem_range.1 hi)]
  exact h
theorem ownF.set {w : World} {H g cap n : Nat} {E : TypeId} {f : Nat → Value} (h : ownF w H g cap n E f) (i : Nat) (u : Value) : ownF (w.setCell ⟨g, i, none⟩ u) H g cap n E (fun j => if j = i then u else f j) := by
  have := (h.stored i u).1
  unfold ownF
  rwa [show ((List.range n).map f).set i u = (List.range n).map (fun j => if j = i then u else f j) from by
    apply List.ext_getElem?
    intro j
    rw [List.getElem?_set]
    by_cases hj : j < n
    · by_cases e : i = j
      · subst e; simp [hj]
      · have : j ≠ i := fun h => e h.symm
        rw [if_neg e, List.getElem?_map, List.getElem?_map, List.getElem?_range hj]
        simp [this]
    · have hj2 : ¬ i = j ∨ ¬ i < n := by omega
      rw [List.getElem?_eq_none (l := (List.range n).map (fun j => if j = i then u else f j)) (by simp; omega)]
      split
      · split
        · rename_i h1 h2; simp at h2; omega
        · rfl
      · exact List.getElem?_eq_none (by simp; omega)] at this
theorem ownF.below {w w' : World} {H g cap n : Nat} {E : TypeId} {f : Nat → Value} (h : ownF w H g cap n E f) (hb : Below w.heap.size w w') : ownF w' H g cap n E f := ownsRow_below h hb
theorem ownF.drew {w : World} {H g cap n : Nat} {E : TypeId} {f : Nat → Value} (h : ownF w H g cap n E f) : ownF w.drew H g cap n E f := h
theorem ownF.lt {w : World} {H g cap n : Nat} {E : TypeId} {f : Nat → Value} (h : ownF w H g cap n E f) : H ≤ g ∧ g < w.heap.size := World.ownsRow.lt h g rfl
theorem ownF.vals {w : World} {H g cap n : Nat} {E : TypeId} {f : Nat → Value} (h : ownF w H g cap n E f) : IsVals w (.slice (some ⟨g, 0, none⟩) n cap) ((List.range n).map f) := IsVals.own h
end Go.Proofs.YtkemlckmfgacdaaGreatDoor
/- Texts as cells; rows of texts in memory; a row that a call makes and grows; rows of labels. -/
namespace Go.Proofs.YtkemlckmfgacdaaGreatDoor
open Go.ChangeShapes Go.WideShapes Go.ChangeAt Go.RowKit
set_option linter.unusedVariables false
open Tp
def bts (l : Bs) : ByteArray := ⟨l.toArray⟩
theorem lst_bts (l : Bs) : lst (bts l) = l := rfl
theorem bts_lst (s : ByteArray) : bts (lst s) = s := by
  unfold bts lst
  rw [Array.toArray_toList]
theorem bts_size (l : Bs) : (bts l).size = l.length := by
  have := lst_len (bts l)
  rw [lst_bts] at this; omega
theorem bts_inj {a b : Bs} (h : bts a = bts b) : a = b := by
  have := congrArg lst h
  rwa [lst_bts, lst_bts] at this
theorem bts_toList (l : Bs) : (bts l).toList = l := by rw [ByteArray.toList_eq]; rfl
/-- texts as cells -/
def txv (K : List Bs) : List Value := K.map fun t => .string (bts t)
theorem txv_length (K : List Bs) : (txv K).length = K.length := by simp [txv]
theorem txv_push (K : List Bs) (t : Bs) : txv (K ++ [t]) = txv K ++ [.string (bts t)] := by simp [txv]
theorem txv_at {K : List Bs} {i : Nat} {t : Bs} (h : K[i]? = some t) : (txv K)[i]? = some (.string (bts t)) := by simp [txv, h]
theorem ownForm {w : World} {base n size : Nat} {e : TypeId} {v : Value} {xs : List Value} (h : w.ownsRow base e size v n xs) : ∃ a cp, v = .slice a n cp ∧ n ≤ cp ∧ cp ≤ 9223372036854775807 ∧ (0 < n → ∃ g, a = some ⟨g, 0, none⟩) := by
  have hml : maxLen = 9223372036854775807 := rfl
  rcases h.2 with ⟨rfl, rfl⟩ | ⟨g, cap, cur, rfl, _, _, h1, h2, _, _⟩
  · exact ⟨none, 0, rfl, Nat.le_refl _, by omega, fun h => absurd h (by omega)⟩
  · exact ⟨some ⟨g, 0, none⟩, cap, rfl, h1, by omega, fun _ => ⟨g, rfl⟩⟩
/-- a row of the call's own, some cells to a thing -/
structure RowS (B : Nat) (e : TypeId) (size n : Nat) (vs : List Value) (x : Value) (w wr : World) : Prop where
  own : wr.ownsRow B e size x n vs
  below : Below B w wr
theorem RowS.step {B : Nat} {e : TypeId} {size n : Nat} {vs : List Value} {x : Value} {w wr wx : World} (h : RowS B e size n vs x w wr) (hb : Below wr.heap.size wr wx) (hB : B ≤ wr.heap.size) : RowS B e size n vs x w wx := ⟨ownsRow_below h.own hb, h.below.trans (hb.mono hB)⟩
theorem RowS.drewN {B : Nat} {e : TypeId} {size n : Nat} {vs : List Value} {x : Value} {w wr : World} (h : RowS B e size n vs x w wr) (q : Nat) : RowS B e size n vs x w (wr.drewN q) := ⟨ownsRow_below h.own (below_drewN (Below.refl _ _) q), below_drewN h.below q⟩
theorem RowS.pushed {B gb cp : Nat} {e : TypeId} {size n : Nat} {vs us : List Value} {x : Value} {w wr wx : World} (h : RowS B e size n vs x w wr) (hB : B ≤ wr.heap.size) (ho : wx.ownsRow B e size (.slice (some ⟨gb, 0, none⟩) (n + 1) cp) (n + 1) (vs ++ us)) (hg : wr.grownBy wx x.ownBlock) : RowS B e size (n + 1) (vs ++ us) (.slice (some ⟨gb, 0, none⟩) (n + 1) cp) w wx :=
  ⟨ho, h.below.grown hg hB (ownBlock_ge h.own (Nat.le_refl _))⟩
theorem RowS.nil (B : Nat) (e : TypeId) (size : Nat) (w : World) : RowS B e size 0 [] (.slice none 0 0) w w := ⟨World.ownsRow_nil _ _ _ _, Below.refl _ _⟩
theorem infoStr : (Tryz.prog.info? 9).map (fun i => (i.zero, i.size, i.bytes)) = some (some (.string ⟨#[]⟩), 1, 16) := by kernel_rfl
theorem ret_slice' {a : Option Addr} {n m cap : Nat} (h : n = m) : Ending.returned (.slice a n cap) = .returned (.slice a m cap) := by rw [h]
namespace Tp
theorem take_snoc {α : Type _} {L : List α} {i : Nat} {p : α} (h : L[i]? = some p) : L.take (i + 1) = L.take i ++ [p] := by
  rw [List.take_add_one, h]; rfl
theorem drop_some {α : Type _} {L : List α} {i : Nat} {c : α} (h : L[i]? = some c) : L.drop i = c :: L.drop (i + 1) := by
  obtain ⟨h1, h2⟩ := List.getElem?_eq_some_iff.1 h
  rw [List.drop_eq_getElem_cons h1, h2]
abbrev Lab := Bs × Bs
def keys (l : List Lab) : List Bs := l.map (·.1)
end Tp
theorem bts_append (a b : Bs) : bts a ++ bts b = bts (a ++ b) := by
  apply ByteArray.ext
  simp [bts, ByteArray.data_append]
theorem bts_eq (a b : Bs) : ((bts a).toList == (bts b).toList) = decide (a = b) := by
  rw [bts_toList, bts_toList]
  by_cases h : a = b
  · subst h; simp
  · simp [h]
def LabsAt (w : World) (b off : Nat) (L : List Lab) : Prop := ∀ i p, L[i]? = some p → w.cell? ⟨b, off + i * 2, none⟩ = some (.string (bts p.1)) ∧ w.cell? ⟨b, off + i * 2 + 1, none⟩ = some (.string (bts p.2))
/-- labels in a row -/
def Labs (w : World) (a : Option Addr) (L : List Lab) : Prop := 0 < L.length → ∃ b off, a = some ⟨b, off, none⟩ ∧ b < w.heap.size ∧ LabsAt w b off L
theorem LabsAt.below {w w' : World} {b off : Nat} {L : List Lab} (h : LabsAt w b off L) {B : Nat} (hb : Below B w w') (hB : b < B) : LabsAt w' b off L := fun i s hi => by
  obtain ⟨h1, h2⟩ := h i s hi
  exact ⟨(hb.cell (p := ⟨b, _, none⟩) hB).trans h1, (hb.cell (p := ⟨b, _, none⟩) hB).trans h2⟩
theorem Labs.below {w w' : World} {a : Option Addr} {L : List Lab} (h : Labs w a L) {B : Nat} (hb : Below B w w') (hB : w.heap.size ≤ B) : Labs w' a L := fun hl => by
  obtain ⟨b, off, e, h1, h2⟩ := h hl
  exact ⟨b, off, e, Nat.lt_of_lt_of_le h1 hb.size, h2.below hb (by omega)⟩
theorem Labs.nil (w : World) (a : Option Addr) : Labs w a [] := fun h => absurd h (by simp)
def LabSizes (l : List Lab) : Prop := ∀ x, x ∈ l → x.1.length ≤ 140737488351232 ∧ x.2.length ≤ 140737488351232
theorem cell_of_block {w w' : World} {p : Addr} (h : w'.heap[p.block]? = w.heap[p.block]?) : w'.cell? p = w.cell? p := by
  unfold World.cell?
  rw [h]
end Go.Proofs.YtkemlckmfgacdaaGreatDoor
/- Texts as cells, and what is a label. -/
namespace Go.Proofs.YtkemlckmfgacdaaGreatDoor
end Go.Proofs.YtkemlckmfgacdaaGreatDoor
/- Plain: asks, as trees: how many there are in one; is one right; what it holds of. -/
namespace Go.Proofs.YtkemlckmfgacdaaGreatDoor
open Go.ChangeShapes Go.WideShapes Go.ChangeAt Go.RowKit
set_option linter.unusedVariables false
open Tp
/-- an ask: kind, key, value, number, the asks in it -/
inductive Ask where
  | mk : Int → Bs → Bs → Int → List Ask → Ask
namespace Ask
def kind : Ask → Int | mk k _ _ _ _ => k
def key : Ask → Bs | mk _ a _ _ _ => a
def val : Ask → Bs | mk _ _ a _ _ => a
def num : Ask → Int | mk _ _ _ n _ => n
def sub : Ask → List Ask | mk _ _ _ _ l => l
mutual
def size : Ask → Nat
  | mk _ _ _ _ l => 1 + sizes l
def sizes : List Ask → Nat
  | [] => 0
  | x :: l => size x + sizes l
end
theorem sizes_at {l : List Ask} {i : Nat} {x : Ask} (h : l[i]? = some x) : size x ≤ sizes l := by
  induction l generalizing i with
  | nil => simp at h
  | cons y l ih =>
    rw [sizes]
    cases i with
    | zero => simp at h; subst h; omega
    | succ i => have := ih (i := i) (by simpa using h); omega
theorem sizes_take {l : List Ask} {i : Nat} {x : Ask} (h : l[i]? = some x) : sizes (l.take (i + 1)) = sizes (l.take i) + size x := by
  induction l generalizing i with
  | nil => simp at h
  | cons y l ih =>
    cases i with
    | zero => simp at h; subst h; simp [sizes]
    | succ i =>
      have := ih (i := i) (by simpa using h)
      rw [List.take_succ_cons, List.take_succ_cons, sizes, sizes, this]; omega
theorem sizes_take_le (l : List Ask) (i : Nat) : sizes (l.take i) ≤ sizes l := by
  induction l generalizing i with
  | nil => simp
  | cons y l ih =>
    cases i with
    | zero => simp [sizes]
    | succ i => have := ih i; rw [List.take_succ_cons, sizes, sizes]; omega
theorem size_sub {k : Int} {a b : Bs} {n : Int} {l : List Ask} {i : Nat} {x : Ask} (h : l[i]? = some x) : size x < size (mk k a b n l) := by
  have := sizes_at h
  rw [size]; omega
theorem one_le (x : Ask) : 1 ≤ size x := by
  cases x; rw [size]; omega
def cpu : Bs := [99, 112, 117]
def mem : Bs := [109, 101, 109]
def gpu : Bs := [103, 112, 117]
def unit (s : Bs) : Bool := decide (s = cpu) || decide (s = mem) || decide (s = gpu)
def inner (k : Int) : Nat := if k = 5 ∨ k = 6 then 2 else if k = 4 then 1 else 0
/-- what is wrong with an ask itself -/
def bad (k : Int) (a b : Bs) (n : Int) (len : Nat) : Int :=
  if k < 1 ∨ 6 < k then 1 else
  if len ≠ inner k ∨ (4 ≤ k ∧ a ≠ []) ∨ (k ≠ 2 ∧ b ≠ []) ∨ (k ≠ 3 ∧ n ≠ 0) then 1 else
  if (k = 3 ∧ unit a = false) ∨ ((k = 1 ∨ k = 2) ∧ lab a = false) ∨ (k = 2 ∧ lab b = false) then 3 else
  if n < 0 ∨ 1099511627776 < n then 4 else 0
mutual
def err : Ask → Int
  | mk k a b n l => if bad k a b n l.length ≠ 0 then bad k a b n l.length else errs l
def errs : List Ask → Int
  | [] => 0
  | x :: l => if err x ≠ 0 then err x else errs l
end
/-- the first j of a row are right -/
def OkTo (l : List Ask) (j : Nat) : Prop := errs l = errs (l.drop j)
theorem OkTo.zero (l : List Ask) : OkTo l 0 := rfl
theorem OkTo.succ {l : List Ask} {j : Nat} {x : Ask} (h : OkTo l j) (hx : l[j]? = some x) (he : err x = 0) : OkTo l (j + 1) := by
  unfold OkTo at *
  rw [h, drop_some hx, errs, if_neg (by simp [he])]
theorem OkTo.bad {l : List Ask} {j : Nat} {x : Ask} (h : OkTo l j) (hx : l[j]? = some x) (he : err x ≠ 0) : errs l = err x := by
  unfold OkTo at h
  rw [h, drop_some hx, errs, if_pos he]
theorem OkTo.fin {l : List Ask} {j : Nat} (h : OkTo l j) (hj : l.length ≤ j) : errs l = 0 := by
  unfold OkTo at h
  rw [h, List.drop_eq_nil_of_le hj, errs]
/-- the whole check -/
def fault (x : Ask) : Int := if 60 < size x then 2 else err x
end Ask
/-- five cells -/
def Cells5 (w : World) (b off : Nat) (v : Value) : Prop := ∃ c0 c1 c2 c3 c4, v = .agg #[c0, c1, c2, c3, c4] ∧ w.cell? ⟨b, off, none⟩ = some c0 ∧ w.cell? ⟨b, off + 1, none⟩ = some c1 ∧ w.cell? ⟨b, off + 2, none⟩ = some c2 ∧ w.cell? ⟨b, off + 3, none⟩ = some c3 ∧ w.cell? ⟨b, off + 4, none⟩ = some c4
mutual
/-- a value that reads as an ask -/
def AskV (w : World) : Ask → Value → Prop
  | .mk k a b n l, v => ∃ ad len cap, v = .agg #[.int .i64 k, .string (bts a), .string (bts b), .int .i64 n, .slice ad len cap] ∧ len = l.length ∧ len ≤ cap ∧ cap ≤ 9223372036854775807 ∧ a.length ≤ 9223372036854775807 ∧ b.length ≤ 9223372036854775807 ∧ (0 < len → ∃ bl off, ad = some ⟨bl, off, none⟩ ∧ bl < w.heap.size ∧ AsksV w l bl off)
/-- asks, one behind the other -/
def AsksV (w : World) : List Ask → Nat → Nat → Prop
  | [], _, _ => True
  | x :: l, b, off => (∃ v, Cells5 w b off v ∧ AskV w x v) ∧ AsksV w l b (off + 5)
end
theorem Cells5.below {w w' : World} {b off : Nat} {v : Value} (h : Cells5 w b off v) {B : Nat} (hb : Below B w w') (hB : b < B) : Cells5 w' b off v := by
  obtain ⟨c0, c1, c2, c3, c4, e, h0, h1, h2, h3, h4⟩ := h
  exact ⟨c0, c1, c2, c3, c4, e, (hb.cell (p := ⟨b, _, none⟩) hB).trans h0, (hb.cell (p := ⟨b, _, none⟩) hB).trans h1, (hb.cell (p := ⟨b, _, none⟩) hB).trans h2, (hb.cell (p := ⟨b, _, none⟩) hB).trans h3, (hb.cell (p := ⟨b, _, none⟩) hB).trans h4⟩
mutual
theorem AskV.below {w w' : World} (hb : Below w.heap.size w w') : ∀ (x : Ask) (v : Value), AskV w x v → AskV w' x v
  | .mk k a b n l, v, h => by
    rw [AskV] at h ⊢
    obtain ⟨ad, len, cap, e, h1, h2, h3, h5, h6, h4⟩ := h
    refine ⟨ad, len, cap, e, h1, h2, h3, h5, h6, fun hp => ?_⟩
    obtain ⟨bl, off, e2, hlt, hh⟩ := h4 hp
    exact ⟨bl, off, e2, Nat.lt_of_lt_of_le hlt hb.size, AsksV.below hb l bl off hlt hh⟩
theorem AsksV.below {w w' : World} (hb : Below w.heap.size w w') : ∀ (l : List Ask) (b off : Nat), b < w.heap.size → AsksV w l b off → AsksV w' l b off
  | [], _, _, _, _ => by rw [AsksV]; trivial
  | x :: l, b, off, hlt, h => by
    rw [AsksV] at h ⊢
    obtain ⟨⟨v, h1, h2⟩, h3⟩ := h
    exact ⟨⟨v, h1.below hb hlt, AskV.below hb x v h2⟩, AsksV.below hb l b (off + 5) hlt h3⟩
end
theorem AsksV.at' {w : World} : ∀ {l : List Ask} {b off i : Nat} {x : Ask}, AsksV w l b off → l[i]? = some x → ∃ v, Cells5 w b (off + i * 5) v ∧ AskV w x v
  | [], _, _, _, _, _, h => by simp at h
  | y :: l, b, off, 0, x, h, hx => by
    rw [AsksV] at h
    simp at hx; subst hx
    simpa using h.1
  | y :: l, b, off, i + 1, x, h, hx => by
    rw [AsksV] at h
    have := AsksV.at' (i := i) h.2 (by simpa using hx)
    rwa [show off + 5 + i * 5 = off + (i + 1) * 5 from by omega] at this
/-- one of a row: its cells, and that it reads as an ask -/
theorem AsksV.get {w : World} {l : List Ask} {b off i : Nat} {x : Ask} (h : AsksV w l b off) (hx : l[i]? = some x) : ∃ ad len cap, w.cell? ⟨b, off + i * 5, none⟩ = some (.int .i64 x.kind) ∧ w.cell? ⟨b, off + i * 5 + 1, none⟩ = some (.string (bts x.key)) ∧ w.cell? ⟨b, off + i * 5 + 2, none⟩ = some (.string (bts x.val)) ∧ w.cell? ⟨b, off + i * 5 + 3, none⟩ = some (.int .i64 x.num) ∧ w.cell? ⟨b, off + i * 5 + 4, none⟩ = some (.slice ad len cap) ∧ AskV w x (.agg #[.int .i64 x.kind, .string (bts x.key), .string (bts x.val), .int .i64 x.num, .slice ad len cap]) := by
  obtain ⟨v, ⟨c0, c1, c2, c3, c4, e, h0, h1, h2, h3, h4⟩, hv⟩ := h.at' hx
  cases x with
  | mk k a b' n l' =>
    have hv2 := hv
    rw [AskV] at hv2
    obtain ⟨ad, len, cap, e2, _⟩ := hv2
    rw [e] at e2
    simp only [Value.agg.injEq, Array.mk.injEq, List.cons.injEq, and_true] at e2
    obtain ⟨rfl, rfl, rfl, rfl, rfl⟩ := e2
    exact ⟨ad, len, cap, h0, h1, h2, h3, h4, by subst e; exact hv⟩
end Go.Proofs.YtkemlckmfgacdaaGreatDoor
/- Plain: the text of an amount; the two ways to read it; that they tell the same. -/
namespace Go.Proofs.YtkemlckmfgacdaaGreatDoor.Nt
open Go.Proofs.YtkemlckmfgacdaaGreatDoor.Tp
set_option linter.unusedVariables false
/-- the pieces of a text between the bytes c -/
def pcs (c : UInt8) : Bs → List Bs
  | [] => [[]]
  | x :: r => if x = c then [] :: pcs c r else match pcs c r with | [] => [[x]] | h :: t => (x :: h) :: t
theorem pcs_ne (c : UInt8) (s : Bs) : pcs c s ≠ [] := by
  cases s with
  | nil => simp [pcs]
  | cons x r =>
    rw [pcs]
    split
    · simp
    · split <;> simp
theorem pcs_none {c : UInt8} : ∀ {s : Bs}, (∀ x, x ∈ s → x ≠ c) → pcs c s = [s]
  | [], _ => rfl
  | x :: r, h => by
    rw [pcs, if_neg (h x (by simp)), pcs_none (fun y hy => h y (by simp [hy]))]
theorem pcs_hit {c : UInt8} : ∀ {p : Bs} {r : Bs}, (∀ x, x ∈ p → x ≠ c) → pcs c (p ++ c :: r) = p :: pcs c r
  | [], r, _ => by simp [pcs]
  | x :: p, r, h => by
    rw [List.cons_append, pcs, if_neg (h x (by simp)), pcs_hit (fun y hy => h y (by simp [hy]))]
theorem split_pcs (c : UInt8) : ∀ (k : Nat) (s : Bs), Lib.count s [c] = k → Lib.splitK [c] 0 k s = pcs c s := by
  intro k
  induction k with
  | zero =>
    intro s hk
    rw [Lib.count_one] at hk
    rw [pcs_none (fun x hx e => by subst e; exact absurd hk (Nat.ne_of_gt (List.count_pos_iff.2 hx)))]
    rfl
  | succ k ih =>
    intro s hk
    have hi := index_one c s
    cases hf : (cutB c s).2.2 with
    | false =>
      obtain ⟨_, _, h3⟩ := cutB_miss hf
      rw [Lib.count_one] at hk
      have : List.count c s = 0 := List.count_eq_zero.2 (fun hx => h3 c hx rfl)
      omega
    | true =>
      obtain ⟨h1, h2⟩ := cutB_hit hf
      rw [hf, if_pos rfl] at hi
      obtain ⟨p, hp⟩ : ∃ p, (cutB c s).1 = p := ⟨_, rfl⟩
      obtain ⟨r, hr⟩ : ∃ p, (cutB c s).2.1 = p := ⟨_, rfl⟩
      rw [hp, hr] at h1
      rw [hp] at h2 hi
      subst h1
      rw [Lib.count_one, List.count_append, List.count_cons, List.count_eq_zero.2 (fun hx => h2 c hx rfl)] at hk
      rw [Lib.splitK, if_neg (by rw [hi]; simp), hi, pcs_hit h2]
      have e1 : ((p.length : Int).toNat + 0) = p.length := by omega
      have e2 : ((p.length : Int).toNat + [c].length) = p.length + 1 := by simp
      rw [e1, e2, List.take_left' rfl, show (p ++ c :: r).drop (p.length + 1) = r from by simp [List.drop_append]]
      rw [ih r (by rw [Lib.count_one]; simp at hk; omega)]
/-- texts in a row, commas between -/
def joinC : List Bs → Bs
  | [] => []
  | [x] => x
  | x :: y :: l => x ++ 44 :: joinC (y :: l)
theorem pcs_join : ∀ {l : List Bs}, l ≠ [] → (∀ t, t ∈ l → ∀ x, x ∈ t → x ≠ 44) → pcs 44 (joinC l) = l
  | [], h, _ => absurd rfl h
  | [x], _, h => by rw [joinC]; exact pcs_none (h x (by simp))
  | x :: y :: l, _, h => by
    rw [joinC, pcs_hit (h x (by simp)), pcs_join (by simp) (fun t ht => h t (by simp at ht ⊢; exact .inr ht))]
/-- what digits spell -/
def val (u : Nat) (s : Bs) : Nat := s.foldl (fun u c => u * 10 + (c.toNat - 48)) u
def isD (c : UInt8) : Prop := 48 ≤ c.toNat ∧ c.toNat ≤ 57
instance (c : UInt8) : Decidable (isD c) := by unfold isD; infer_instance
def dec (u : Nat) : Bs := Lib.decDigits u
theorem dec_small {u : Nat} (h : u < 10) : dec u = [UInt8.ofNat (48 + u)] := by
  unfold dec
  rw [Lib.decDigits, dif_pos h]
theorem dec_big {u : Nat} (h : ¬ u < 10) : dec u = dec (u / 10) ++ [UInt8.ofNat (48 + u % 10)] := by
  show Lib.decDigits u = _
  rw [Lib.decDigits, dif_neg h]
  rfl
theorem dg_nat {d : Nat} (h : d < 10) : (UInt8.ofNat (48 + d)).toNat = 48 + d := by
  rw [UInt8.toNat_ofNat']; omega
theorem val_append (u : Nat) (a b : Bs) : val u (a ++ b) = val (val u a) b := by simp [val, List.foldl_append]
theorem dec_val : ∀ (N u : Nat), u < N → val 0 (dec u) = u ∧ ∀ c, c ∈ dec u → isD c := by
  intro N
  induction N with
  | zero => intro u h; omega
  | succ N ih =>
    intro u h
    by_cases h9 : u < 10
    · rw [dec_small h9]
      refine ⟨?_, fun c hc => ?_⟩
      · show 0 * 10 + ((UInt8.ofNat (48 + u)).toNat - 48) = u
        rw [dg_nat h9]; omega
      · rw [List.mem_singleton] at hc
        subst hc
        unfold isD; rw [dg_nat h9]; omega
    · obtain ⟨h1, h2⟩ := ih (u / 10) (by omega)
      have hm : u % 10 < 10 := Nat.mod_lt _ (by omega)
      rw [dec_big h9]
      refine ⟨?_, fun c hc => ?_⟩
      · rw [val_append, h1]
        show u / 10 * 10 + ((UInt8.ofNat (48 + u % 10)).toNat - 48) = u
        rw [dg_nat hm]; omega
      · rw [List.mem_append] at hc
        rcases hc with hc | hc
        · exact h2 c hc
        · rw [List.mem_singleton] at hc
          subst hc
          unfold isD; rw [dg_nat hm]; omega
theorem dec_ne (u : Nat) : dec u ≠ [] := by
  by_cases h : u < 10
  · rw [dec_small h]; simp
  · rw [dec_big h]; simp
theorem dec_len : ∀ (k u : Nat), u < 10 ^ (k + 1) → (dec u).length ≤ k + 1
  | 0, u, h => by rw [dec_small (by simpa using h)]; simp
  | k + 1, u, h => by
    by_cases h1 : u < 10
    · rw [dec_small h1]; simp
    · rw [dec_big h1, List.length_append]
      have := dec_len k (u / 10) (by rw [Nat.pow_succ] at h; omega)
      simp; omega
theorem val_ge (u : Nat) (s : Bs) : u ≤ val u s := by
  induction s generalizing u with
  | nil => exact Nat.le_refl _
  | cons c s ih =>
    have := ih (u * 10 + (c.toNat - 48))
    show u ≤ val (u * 10 + (c.toNat - 48)) s
    omega
theorem parseM {M : Nat} (hM : M ≤ 18446744073709551615) : ∀ (s : Bs) (acc : Nat), (∀ c, c ∈ s → isD c) → val acc s ≤ M → Lib.parseUintM M acc s = .ok (val acc s)
  | [], acc, _, _ => rfl
  | c :: s, acc, hd, hv => by
    have h1 := hd c (by simp)
    have hv2 : val (acc * 10 + (c.toNat - 48)) s ≤ M := hv
    have h3 := val_ge (acc * 10 + (c.toNat - 48)) s
    rw [Lib.parseUintM, if_pos (show 48 ≤ c.toNat ∧ c.toNat ≤ 57 from h1), if_neg (by omega), if_neg (by omega), parseM hM s _ (fun x hx => hd x (by simp [hx])) hv2]
    rfl
theorem parse_dec {u : Nat} (h : u < 9223372036854775808) : Lib.parseIntB 64 (dec u) = .ok (u : Int) := by
  obtain ⟨h1, h2⟩ := dec_val (u + 1) u (by omega)
  cases hd : dec u with
  | nil => exact absurd hd (dec_ne u)
  | cons c r =>
    have hc : isD c := h2 c (by rw [hd]; simp)
    unfold isD at hc
    unfold Lib.parseIntB
    simp only
    have hp : Lib.parseUintB 64 (c :: r) = .ok u := by
      unfold Lib.parseUintB
      rw [if_neg (by simp), ← hd]
      have := parseM (M := 2 ^ 64 - 1) (by omega) (dec u) 0 h2 (by rw [h1]; omega)
      rw [this, h1]
    rw [if_neg (by omega), hp]
    simp only
    rw [if_neg (by omega), if_neg (by omega), if_neg (by omega)]
/-- three numbers -/
abbrev V3 := Nat × Nat × Nat
def cpu : Bs := [99, 112, 117]
def mem : Bs := [109, 101, 109]
def gpu : Bs := [103, 112, 117]
def ent (n : Bs) (u : Nat) : List Bs := if u = 0 then [] else [n ++ 61 :: dec u]
def ents (v : V3) : List Bs := ent cpu v.1 ++ ent mem v.2.1 ++ ent gpu v.2.2
/-- the text of an amount -/
def needText (v : V3) : Bs := if ents v = [] then [45] else joinC (ents v)
/-- one of the three is set -/
def setV (v : V3) (n : Bs) (u : Nat) : V3 := (if n = cpu then u else v.1, if n = mem then u else v.2.1, if n = gpu then u else v.2.2)
/-- the program's way with one piece -/
def stepP (v : V3) (x : Bs) : Option V3 :=
  match Lib.parseIntB 64 (cutB 61 x).2.1 with
  | .ok n => if n ≤ 0 then none else some (setV v (cutB 61 x).1 n.toNat)
  | _ => none
def foldO (f : V3 → Bs → Option V3) : V3 → List Bs → Option V3
  | v, [] => some v
  | v, x :: l => match f v x with | none => none | some v' => foldO f v' l
def readP (s : Bs) : Option V3 := if s = [45] then some (0, 0, 0) else foldO stepP (0, 0, 0) (pcs 44 s)
/-- digits alone, at most 19 -/
def digs (s : Bs) : Option Nat := if (∀ c, c ∈ s → isD c) ∧ s.length ≤ 19 then some (val 0 s) else none
/-- a number's text -/
def decI (n : Int) : Bs := if n < 0 then 45 :: dec n.natAbs else dec n.toNat
/-- the document's IntOf -/
def intOf (s : Bs) : Option Int :=
  match s with
  | [] => none
  | c :: r =>
    match digs (if c = 45 then r else s) with
    | none => none
    | some u =>
      if (if c = 45 then r else s) = [] ∨ 9223372036854775808 < u ∨ (u = 9223372036854775808 ∧ c ≠ 45) then none
      else if decI (if c = 45 then -(u : Int) else u) = s then some (if c = 45 then -(u : Int) else u) else none
theorem intOf_dec {u : Nat} (h : u < 9223372036854775808) : intOf (dec u) = some (u : Int) := by
  obtain ⟨h1, h2⟩ := dec_val (u + 1) u (by omega)
  cases hd : dec u with
  | nil => exact absurd hd (dec_ne u)
  | cons c r =>
    have hc : isD c := h2 c (by rw [hd]; simp)
    have hne : c ≠ 45 := fun e => by subst e; unfold isD at hc; simp at hc
    have hdg : digs (c :: r) = some u := by
      unfold digs
      rw [if_pos ⟨by rw [← hd]; exact h2, by rw [← hd]; exact dec_len 18 u (by omega)⟩, ← hd, h1]
    unfold intOf
    simp only [if_neg hne]
    rw [hdg]
    simp only
    rw [if_neg (by simp [hne]; omega), if_pos (by unfold decI; rw [if_neg (by omega), Int.toNat_natCast, hd])]
theorem intOf_lt {s : Bs} {n : Int} (h : intOf s = some n) : n < 9223372036854775808 := by
  unfold intOf at h
  cases s with
  | nil => cases h
  | cons c r =>
    simp only at h
    by_cases hc : c = 45
    · simp only [if_pos hc] at h
      cases hd : digs r with
      | none => rw [hd] at h; cases h
      | some u =>
        rw [hd] at h
        simp only at h
        split at h
        · cases h
        · split at h
          · injection h with h; omega
          · cases h
    · simp only [if_neg hc] at h
      cases hd : digs (c :: r) with
      | none => rw [hd] at h; cases h
      | some u =>
        rw [hd] at h
        simp only at h
        split at h
        · cases h
        · rename_i hh
          split at h
          · injection h with h
            have h1 : ¬ 9223372036854775808 < u := fun e => hh (.inr (.inl e))
            have h2 : u ≠ 9223372036854775808 := fun e => hh (.inr (.inr ⟨e, hc⟩))
            omega
          · cases h
/-- the document's way with one piece -/
def stepR (v : V3) (x : Bs) : Option V3 :=
  if 4 < x.length ∧ (x.take 4 = cpu ++ [61] ∨ x.take 4 = mem ++ [61] ∨ x.take 4 = gpu ++ [61]) then
    match intOf (x.drop 4) with
    | some n => if n ≤ 0 then none else some (setV v (x.take 3) n.toNat)
    | none => none
  else none
def readR (s : Bs) : Option V3 := if s = [45] then some (0, 0, 0) else foldO stepR (0, 0, 0) (pcs 44 s)
def Can (v : V3) : Prop := v.1 < 9223372036854775808 ∧ v.2.1 < 9223372036854775808 ∧ v.2.2 < 9223372036854775808
theorem setV_can {v : V3} {n : Bs} {u : Nat} (h : Can v) (hu : u < 9223372036854775808) : Can (setV v n u) := by
  obtain ⟨h1, h2, h3⟩ := h
  unfold Can setV
  simp only
  refine ⟨?_, ?_, ?_⟩ <;> split <;> assumption
theorem foldO_can {f : V3 → Bs → Option V3} (hf : ∀ v x v', Can v → f v x = some v' → Can v') : ∀ (l : List Bs) (v v' : V3), Can v → foldO f v l = some v' → Can v'
  | [], v, v', h, e => by rw [foldO] at e; cases e; exact h
  | x :: l, v, v', h, e => by
    rw [foldO] at e
    cases hx : f v x with
    | none => rw [hx] at e; cases e
    | some y => rw [hx] at e; exact foldO_can hf l y v' (hf v x y h hx) e
theorem parse_lt {s : Bs} {n : Int} (h : Lib.parseIntB 64 s = .ok n) : n < 9223372036854775808 := by
  unfold Lib.parseIntB at h
  split at h
  · cases h
  · simp only at h
    split at h
    · cases h
    · cases h
    · split at h
      · cases h
      · rename_i h1
        split at h
        · cases h
        · injection h with h
          subst h
          split
          · omega
          · rename_i hn
            have := not_and.1 h1 hn
            omega
theorem stepP_can {v : V3} {x : Bs} {v' : V3} (h : Can v) (e : stepP v x = some v') : Can v' := by
  unfold stepP at e
  split at e
  · rename_i n hn
    split at e
    · cases e
    · injection e with e
      subst e
      have := parse_lt hn
      exact setV_can h (by omega)
  · cases e
theorem stepR_can {v : V3} {x : Bs} {v' : V3} (h : Can v) (e : stepR v x = some v') : Can v' := by
  unfold stepR at e
  split at e
  · split at e
    · rename_i n hn
      split at e
      · cases e
      · injection e with e
        subst e
        have := intOf_lt hn
        exact setV_can h (by omega)
    · cases e
  · cases e
theorem can0 : Can (0, 0, 0) := ⟨by decide, by decide, by decide⟩
theorem readP_can {s : Bs} {v : V3} (h : readP s = some v) : Can v := by
  unfold readP at h
  split at h
  · injection h with h; subst h; exact can0
  · exact foldO_can (fun _ _ _ => stepP_can) _ _ _ can0 h
theorem readR_can {s : Bs} {v : V3} (h : readR s = some v) : Can v := by
  unfold readR at h
  split at h
  · injection h with h; subst h; exact can0
  · exact foldO_can (fun _ _ _ => stepR_can) _ _ _ can0 h
theorem cut_ent {n : Bs} {r : Bs} (h : ∀ x, x ∈ n → x ≠ (61 : UInt8)) : cutB 61 (n ++ 61 :: r) = (n, r, true) := by
  induction n with
  | nil => simp [cutB]
  | cons x n ih =>
    have := ih (fun y hy => h y (by simp [hy]))
    rw [List.cons_append, cutB, if_neg (by have := h x (by simp); simpa using this), this]
theorem stepP_ent {v : V3} {n : Bs} {u : Nat} (h : ∀ x, x ∈ n → x ≠ (61 : UInt8)) (h0 : u ≠ 0) (hu : u < 9223372036854775808) : stepP v (n ++ 61 :: dec u) = some (setV v n u) := by
  unfold stepP
  rw [cut_ent h]
  simp only
  rw [parse_dec hu]
  simp only
  rw [if_neg (by omega), Int.toNat_natCast]
theorem stepR_ent {v : V3} {n : Bs} {u : Nat} (h : n = cpu ∨ n = mem ∨ n = gpu) (h0 : u ≠ 0) (hu : u < 9223372036854775808) : stepR v (n ++ 61 :: dec u) = some (setV v n u) := by
  have h3 : n.length = 3 := by rcases h with rfl | rfl | rfl <;> rfl
  have hl : 4 < (n ++ 61 :: dec u).length := by
    have := List.length_pos_iff.2 (dec_ne u)
    simp; omega
  have e4 : (n ++ 61 :: dec u).take 4 = n ++ [61] := by
    rw [show n ++ 61 :: dec u = (n ++ [61]) ++ dec u from by simp, List.take_left' (by simp [h3])]
  have e3 : (n ++ 61 :: dec u).take 3 = n := List.take_left' h3
  have d4 : (n ++ 61 :: dec u).drop 4 = dec u := by
    rw [show n ++ 61 :: dec u = (n ++ [61]) ++ dec u from by simp, List.drop_left' (by simp [h3])]
  unfold stepR
  rw [if_pos ⟨hl, by rw [e4]; rcases h with rfl | rfl | rfl <;> simp⟩, d4, intOf_dec hu, e3]
  simp only
  rw [if_neg (by omega), Int.toNat_natCast]
theorem no61 {n : Bs} (h : n = cpu ∨ n = mem ∨ n = gpu) : ∀ x, x ∈ n → x ≠ (61 : UInt8) := by
  rcases h with rfl | rfl | rfl <;> decide
theorem no44 {n : Bs} (h : n = cpu ∨ n = mem ∨ n = gpu) : ∀ x, x ∈ n → x ≠ (44 : UInt8) := by
  rcases h with rfl | rfl | rfl <;> decide
theorem ent44 {n : Bs} {u : Nat} (h : n = cpu ∨ n = mem ∨ n = gpu) : ∀ t, t ∈ ent n u → ∀ x, x ∈ t → x ≠ (44 : UInt8) := by
  intro t ht x hx
  unfold ent at ht
  split at ht
  · cases ht
  · simp at ht; subst ht
    rw [List.mem_append] at hx
    rcases hx with hx | hx
    · exact no44 h x hx
    · rw [List.mem_cons] at hx
      rcases hx with rfl | hx
      · decide
      · have := (dec_val (u + 1) u (by omega)).2 x hx
        intro e; subst e; unfold isD at this; simp at this
theorem ents44 (v : V3) : ∀ t, t ∈ ents v → ∀ x, x ∈ t → x ≠ (44 : UInt8) := by
  intro t ht
  unfold ents at ht
  rw [List.mem_append, List.mem_append] at ht
  rcases ht with (ht | ht) | ht
  · exact ent44 (.inl rfl) t ht
  · exact ent44 (.inr (.inl rfl)) t ht
  · exact ent44 (.inr (.inr rfl)) t ht
theorem fold_ent {f : V3 → Bs → Option V3} (hf : ∀ (v : V3) (n : Bs) (u : Nat), n = cpu ∨ n = mem ∨ n = gpu → u ≠ 0 → u < 9223372036854775808 → f v (n ++ 61 :: dec u) = some (setV v n u)) {n : Bs} {u : Nat} (hn : n = cpu ∨ n = mem ∨ n = gpu) (hu : u < 9223372036854775808) (v : V3) (l : List Bs) : foldO f v (ent n u ++ l) = foldO f (if u = 0 then v else setV v n u) l := by
  unfold ent
  by_cases h : u = 0
  · rw [if_pos h, if_pos h]; rfl
  · rw [if_neg h, if_neg h, List.singleton_append, foldO, hf v n u hn h hu]
theorem fold_ents {f : V3 → Bs → Option V3} (hf : ∀ (v : V3) (n : Bs) (u : Nat), n = cpu ∨ n = mem ∨ n = gpu → u ≠ 0 → u < 9223372036854775808 → f v (n ++ 61 :: dec u) = some (setV v n u)) {v : V3} (h : Can v) : foldO f (0, 0, 0) (ents v) = some v := by
  obtain ⟨a, b, c⟩ := v
  obtain ⟨h1, h2, h3⟩ := h
  unfold ents
  rw [List.append_assoc, fold_ent hf (.inl rfl) h1, fold_ent hf (.inr (.inl rfl)) h2, ← List.append_nil (ent gpu _), fold_ent hf (.inr (.inr rfl)) h3, foldO]
  by_cases ha : a = 0 <;> by_cases hb : b = 0 <;> by_cases hc : c = 0 <;> simp [ha, hb, hc, setV, cpu, mem, gpu]
theorem text_dash {v : V3} (h : needText v = [45]) : ents v = [] := by
  unfold needText at h
  split at h
  · assumption
  · rename_i hne
    exfalso
    have h2 := pcs_join hne (ents44 v)
    rw [h] at h2
    have h3 : ents v = [[45]] := by rw [← h2]; rfl
    have : ([45] : Bs) ∈ ents v := by rw [h3]; simp
    unfold ents ent at this
    simp only [List.mem_append] at this
    rcases this with (h | h) | h <;> (split at h <;> simp [cpu, mem, gpu] at h)
theorem ents_nil {v : V3} (h : ents v = []) : v = (0, 0, 0) := by
  obtain ⟨a, b, c⟩ := v
  unfold ents ent at h
  simp only [List.append_eq_nil_iff] at h
  obtain ⟨⟨h1, h2⟩, h3⟩ := h
  have e1 : a = 0 := by by_cases e : a = 0; exact e; rw [if_neg e] at h1; cases h1
  have e2 : b = 0 := by by_cases e : b = 0; exact e; rw [if_neg e] at h2; cases h2
  have e3 : c = 0 := by by_cases e : c = 0; exact e; rw [if_neg e] at h3; cases h3
  rw [e1, e2, e3]
theorem read_text {f : V3 → Bs → Option V3} (hf : ∀ (v : V3) (n : Bs) (u : Nat), n = cpu ∨ n = mem ∨ n = gpu → u ≠ 0 → u < 9223372036854775808 → f v (n ++ 61 :: dec u) = some (setV v n u)) {v : V3} (h : Can v) : (if needText v = [45] then some (0, 0, 0) else foldO f (0, 0, 0) (pcs 44 (needText v))) = some v := by
  by_cases hd : needText v = [45]
  · rw [if_pos hd, ents_nil (text_dash hd)]
  · rw [if_neg hd]
    have hne : ents v ≠ [] := fun e => hd (by unfold needText; rw [if_pos e])
    have : needText v = joinC (ents v) := by unfold needText; rw [if_neg hne]
    rw [this, pcs_join hne (ents44 v)]
    exact fold_ents hf h
theorem readP_text {v : V3} (h : Can v) : readP (needText v) = some v := read_text (fun v n u hn h0 hu => stepP_ent (no61 hn) h0 hu) h
theorem readR_text {v : V3} (h : Can v) : readR (needText v) = some v := read_text (fun v n u hn h0 hu => stepR_ent hn h0 hu) h
/-- a reading that is the text of what it tells -/
def own (r : Option V3) (s : Bs) : Option V3 := match r with | none => none | some v => if needText v = s then some v else none
theorem own_same (s : Bs) : own (readP s) s = own (readR s) s := by
  have key : ∀ {r r' : Option V3}, (∀ v, r = some v → Can v) → (∀ v, Can v → needText v = s → r' = some v) → ∀ v, own r s = some v → own r' s = some v := by
    intro r r' h1 h2 v hv
    unfold own at hv
    split at hv
    · cases hv
    · rename_i y
      split at hv
      · rename_i ht
        injection hv with hv
        subst hv
        rw [h2 y (h1 y rfl) ht]
        unfold own
        simp only
        rw [if_pos ht]
      · cases hv
  have hPR := @key (readP s) (readR s) (fun v h => readP_can h) (fun v hc ht => by rw [← ht]; exact readR_text hc)
  have hRP := @key (readR s) (readP s) (fun v h => readR_can h) (fun v hc ht => by rw [← ht]; exact readP_text hc)
  cases h : own (readP s) s with
  | some v => exact (hPR v h).symm
  | none =>
    cases h' : own (readR s) s with
    | none => rfl
    | some v => rw [hRP v h'] at h; cases h
end Go.Proofs.YtkemlckmfgacdaaGreatDoor.Nt
/- Plain: the text of an ask, as deep as it goes; the two ways to read it; that they tell the same. -/
namespace Go.Proofs.YtkemlckmfgacdaaGreatDoor.Ar
open Go.Proofs.YtkemlckmfgacdaaGreatDoor.Tp
open Go.Proofs.YtkemlckmfgacdaaGreatDoor.Nt (dec dec_val dec_ne parse_dec intOf intOf_dec isD)
set_option linter.unusedVariables false
/-- a sign that no word holds -/
def sgn (c : UInt8) : Bool := c == 63 || c == 61 || c == 62 || c == 33 || c == 40 || c == 41 || c == 38 || c == 124
def word (s : Bs) : Bs := s.takeWhile fun c => !sgn c
def rest (s : Bs) : Bs := s.dropWhile fun c => !sgn c
/-- nothing, or a sign, comes first -/
def Stop (s : Bs) : Prop := s = [] ∨ ∃ c t, s = c :: t ∧ sgn c = true
theorem word_stop {w s : Bs} (hw : ∀ c, c ∈ w → sgn c = false) (hs : Stop s) : word (w ++ s) = w ∧ rest (w ++ s) = s := by
  induction w with
  | nil =>
    rcases hs with rfl | ⟨c, t, rfl, hc⟩
    · exact ⟨rfl, rfl⟩
    · unfold word rest
      simp [List.takeWhile, List.dropWhile, hc]
  | cons x w ih =>
    obtain ⟨h1, h2⟩ := ih (fun c hc => hw c (by simp [hc]))
    have hx := hw x (by simp)
    unfold word rest at *
    rw [List.cons_append, List.takeWhile_cons_of_pos (by simp [hx]), List.dropWhile_cons_of_pos (by simp [hx]), h1, h2]
    exact ⟨rfl, rfl⟩
mutual
/-- the text of an ask -/
def txt : Ask → Bs
  | .mk k a b n l => if k = 1 then 63 :: a else if k = 2 then a ++ 61 :: b else if k = 3 then a ++ 62 :: 61 :: dec n.toNat else if k = 4 then 33 :: txts 0 l else 40 :: txts k l
/-- of what lies in it -/
def txts (k : Int) : List Ask → Bs
  | [] => []
  | x :: l => if k = 0 then txt x else if k = 41 then txt x ++ [41] else txt x ++ (if k = 5 then 38 else 124) :: txts 41 l
end
theorem txt4 (y : Ask) (a b : Bs) (n : Int) : txt (.mk 4 a b n [y]) = 33 :: txt y := by simp [txt, txts]
theorem txt5 (x y : Ask) (a b : Bs) (n : Int) : txt (.mk 5 a b n [x, y]) = 40 :: (txt x ++ 38 :: (txt y ++ [41])) := by simp [txt, txts]
theorem txt6 (x y : Ask) (a b : Bs) (n : Int) : txt (.mk 6 a b n [x, y]) = 40 :: (txt x ++ 124 :: (txt y ++ [41])) := by simp [txt, txts]
/-- the program's reader: so many calls may come yet -/
def askP : Nat → Nat → Bs → Option (Ask × Bs × Nat)
  | 0, _, _ => none
  | N + 1, left, s =>
    if left = 0 then none else
    match s with
    | 63 :: t => some (.mk 1 (word t) [] 0 [], rest t, left - 1)
    | 33 :: t => match askP N (left - 1) t with
      | none => none
      | some (y, r, l) => some (.mk 4 [] [] 0 [y], r, l)
    | 40 :: t => match askP N (left - 1) t with
      | none => none
      | some (a, r, l) => match r with
        | 124 :: r' => match askP N l r' with
          | some (b, 41 :: r2, l2) => some (.mk 6 [] [] 0 [a, b], r2, l2)
          | _ => none
        | 38 :: r' => match askP N l r' with
          | some (b, 41 :: r2, l2) => some (.mk 5 [] [] 0 [a, b], r2, l2)
          | _ => none
        | _ => none
    | s => match rest s with
      | 62 :: 61 :: t => match Lib.parseIntB 64 (word t) with
        | .ok n => some (.mk 3 (word s) [] n [], rest t, left - 1)
        | _ => none
      | 61 :: t => some (.mk 2 (word s) (word t) 0 [], rest t, left - 1)
      | _ => none
/-- the document's: so deep -/
def askR : Nat → Bs → Option (Ask × Bs)
  | 0, _ => none
  | deep + 1, s =>
    match s with
    | [] => none
    | 63 :: t => some (.mk 1 (word t) [] 0 [], rest t)
    | 33 :: t => match askR deep t with
      | none => none
      | some (y, r) => some (.mk 4 [] [] 0 [y], r)
    | 40 :: t => match askR deep t with
      | none => none
      | some (a, r) => match r with
        | 124 :: r' => match askR deep r' with
          | some (b, 41 :: r2) => some (.mk 6 [] [] 0 [a, b], r2)
          | _ => none
        | 38 :: r' => match askR deep r' with
          | some (b, 41 :: r2) => some (.mk 5 [] [] 0 [a, b], r2)
          | _ => none
        | _ => none
    | s => match rest s with
      | 62 :: 61 :: t => match intOf (word t) with
        | some n => some (.mk 3 (word s) [] n [], rest t)
        | none => none
      | 61 :: t => some (.mk 2 (word s) (word t) 0 [], rest t)
      | _ => none
theorem labC_sgn {c : UInt8} (h : labC c = true) : sgn c = false := by
  unfold labC small at h
  simp only [Bool.or_eq_true, decide_eq_true_eq] at h
  unfold sgn
  simp only [Bool.or_eq_false_iff, beq_eq_false_iff_ne]
  have hn : ∀ d : UInt8, (d.toNat = 63 ∨ d.toNat = 61 ∨ d.toNat = 62 ∨ d.toNat = 33 ∨ d.toNat = 40 ∨ d.toNat = 41 ∨ d.toNat = 38 ∨ d.toNat = 124) → c ≠ d := fun d hd e => by subst e; omega
  refine ⟨⟨⟨⟨⟨⟨⟨hn _ ?_, hn _ ?_⟩, hn _ ?_⟩, hn _ ?_⟩, hn _ ?_⟩, hn _ ?_⟩, hn _ ?_⟩, hn _ ?_⟩ <;> decide
theorem isD_sgn {c : UInt8} (h : isD c) : sgn c = false := labC_sgn (by
  unfold isD at h
  unfold labC
  simp only [Bool.or_eq_true, decide_eq_true_eq]
  exact .inl (.inr h))
theorem lab_sgn {s : Bs} (h : lab s = true) : ∀ c, c ∈ s → sgn c = false := by
  cases s with
  | nil => intro c hc; cases hc
  | cons x s =>
    unfold lab at h
    simp only [Bool.and_eq_true] at h
    intro c hc
    rcases List.mem_cons.1 hc with rfl | hc
    · exact labC_sgn (by unfold labC; rw [h.1.1]; rfl)
    · exact labC_sgn (List.all_eq_true.1 h.1.2 c hc)
theorem unit_sgn {s : Bs} (h : Ask.unit s = true) : ∀ c, c ∈ s → sgn c = false := by
  unfold Ask.unit at h
  simp only [Bool.or_eq_true, decide_eq_true_eq] at h
  rcases h with (h | h) | h <;> subst h <;> decide
theorem lab_ne {s : Bs} (h : lab s = true) : s ≠ [] := fun e => by rw [e] at h; cases h
theorem unit_ne {s : Bs} (h : Ask.unit s = true) : s ≠ [] := by
  unfold Ask.unit at h
  simp only [Bool.or_eq_true, decide_eq_true_eq] at h
  rcases h with (h | h) | h <;> subst h <;> decide
theorem dec_sgn (u : Nat) : ∀ c, c ∈ dec u → sgn c = false := fun c hc => isD_sgn ((dec_val (u + 1) u (by omega)).2 c hc)
/-- where no sign comes first, the reader goes on to the word -/
theorem askP_word {N left : Nat} {s : Bs} (h0 : left ≠ 0) (hs : ∀ c t, s = c :: t → sgn c = false) : askP (N + 1) left s = match rest s with
      | 62 :: 61 :: t => match Lib.parseIntB 64 (word t) with
        | .ok n => some (.mk 3 (word s) [] n [], rest t, left - 1)
        | _ => none
      | 61 :: t => some (.mk 2 (word s) (word t) 0 [], rest t, left - 1)
      | _ => none := by
  rw [askP, if_neg h0]
  all_goals first | rfl | (intro t e; exact absurd (hs _ _ e) (by decide))
theorem askR_word {deep : Nat} {s : Bs} (h0 : s ≠ []) (hs : ∀ c t, s = c :: t → sgn c = false) : askR (deep + 1) s = match rest s with
      | 62 :: 61 :: t => match intOf (word t) with
        | some n => some (.mk 3 (word s) [] n [], rest t)
        | none => none
      | 61 :: t => some (.mk 2 (word s) (word t) 0 [], rest t)
      | _ => none := by
  rw [askR]
  all_goals first | rfl | exact h0 | (intro t e; exact absurd (hs _ _ e) (by decide))
theorem stop41 (s : Bs) : Stop (41 :: s) := .inr ⟨41, s, rfl, by decide⟩
theorem stop38 (s : Bs) : Stop (38 :: s) := .inr ⟨38, s, rfl, by decide⟩
theorem stop124 (s : Bs) : Stop (124 :: s) := .inr ⟨124, s, rfl, by decide⟩
theorem stop61 (s : Bs) : Stop (61 :: s) := .inr ⟨61, s, rfl, by decide⟩
theorem stop62 (s : Bs) : Stop (62 :: s) := .inr ⟨62, s, rfl, by decide⟩
theorem first_of {a s : Bs} (h : a ≠ []) (ha : ∀ c, c ∈ a → sgn c = false) : ∀ c t, a ++ s = c :: t → sgn c = false := fun c t e => by
  cases a with
  | nil => exact absurd rfl h
  | cons x a => rw [List.cons_append] at e; injection e with e1 e2; subst e1; exact ha x (by simp)
/-- an ask that is right: its kinds -/
inductive Good : Ask → Prop where
  | has {a : Bs} (h : lab a = true) : Good (.mk 1 a [] 0 [])
  | is {a b : Bs} (h : lab a = true) (h2 : lab b = true) : Good (.mk 2 a b 0 [])
  | more {a : Bs} {n : Int} (h : Ask.unit a = true) (h0 : 0 ≤ n) (h1 : n ≤ 1099511627776) : Good (.mk 3 a [] n [])
  | not {y : Ask} (h : Good y) : Good (.mk 4 [] [] 0 [y])
  | and {x y : Ask} (h : Good x) (h2 : Good y) : Good (.mk 5 [] [] 0 [x, y])
  | or {x y : Ask} (h : Good x) (h2 : Good y) : Good (.mk 6 [] [] 0 [x, y])
theorem bad_parts {k : Int} {a b : Bs} {n : Int} {len : Nat} (h : Ask.bad k a b n len = 0) : (1 ≤ k ∧ k ≤ 6) ∧ len = Ask.inner k ∧ (4 ≤ k → a = []) ∧ (k ≠ 2 → b = []) ∧ (k ≠ 3 → n = 0) ∧ (k = 3 → Ask.unit a = true) ∧ (k = 1 ∨ k = 2 → lab a = true) ∧ (k = 2 → lab b = true) ∧ 0 ≤ n ∧ n ≤ 1099511627776 := by
  unfold Ask.bad at h
  split at h
  · cases h
  rename_i h1
  split at h
  · cases h
  rename_i h2
  split at h
  · cases h
  rename_i h3
  split at h
  · cases h
  rename_i h4
  simp only [not_or, not_and] at h1 h2 h3 h4
  refine ⟨by omega, by have := h2.1; omega, fun e => Classical.byContradiction (h2.2.1 e), fun e => Classical.byContradiction (h2.2.2.1 e), fun e => Classical.byContradiction (h2.2.2.2 e), fun e => by simpa using h3.1 e, fun e => by simpa using h3.2.1 e, fun e => by simpa using h3.2.2 e, by omega, by omega⟩
theorem good_of : ∀ (N : Nat) (x : Ask), x.size ≤ N → x.err = 0 → Good x := by
  intro N
  induction N with
  | zero => intro x h; have := Ask.one_le x; omega
  | succ N ih =>
    intro x hN he
    cases x with
    | mk k a b n l =>
      rw [Ask.err] at he
      split at he
      · rename_i h1; exact absurd he h1
      rename_i hb
      have hb : Ask.bad k a b n l.length = 0 := Decidable.byContradiction hb
      obtain ⟨⟨k1, k6⟩, hl, ha, hbb, hn, h3, h12, h2, n0, n1⟩ := bad_parts hb
      have hsub : ∀ y, y ∈ l → Ask.errs l = 0 → y.err = 0 := by
        intro y hy
        have : ∀ l : List Ask, y ∈ l → Ask.errs l = 0 → y.err = 0 := by
          intro l
          induction l with
          | nil => intro h; cases h
          | cons z l ihl =>
            intro hy he
            rw [Ask.errs] at he
            split at he
            · rename_i h1; exact absurd he h1
            · rename_i h1
              rcases List.mem_cons.1 hy with rfl | hy
              · exact Decidable.byContradiction h1
              · exact ihl hy he
        exact this l hy
      have hsz : ∀ y, y ∈ l → y.size ≤ N := by
        intro y hy
        obtain ⟨i, hi⟩ := List.getElem?_of_mem hy
        have := Ask.size_sub (k := k) (a := a) (b := b) (n := n) hi
        omega
      have hk : k = 1 ∨ k = 2 ∨ k = 3 ∨ k = 4 ∨ k = 5 ∨ k = 6 := by omega
      rcases hk with rfl | rfl | rfl | rfl | rfl | rfl
      · obtain rfl : l = [] := List.eq_nil_of_length_eq_zero hl
        rw [hbb (by decide), hn (by decide)]
        exact .has (h12 (.inl rfl))
      · obtain rfl : l = [] := List.eq_nil_of_length_eq_zero hl
        rw [hn (by decide)]
        exact .is (h12 (.inr rfl)) (h2 rfl)
      · obtain rfl : l = [] := List.eq_nil_of_length_eq_zero hl
        rw [hbb (by decide)]
        exact .more (h3 rfl) n0 n1
      · match l, hl with
        | [y], _ =>
          rw [ha (by decide), hbb (by decide), hn (by decide)]
          exact .not (ih y (hsz y (by simp)) (hsub y (by simp) he))
      · match l, hl with
        | [x, y], _ =>
          rw [ha (by decide), hbb (by decide), hn (by decide)]
          exact .and (ih x (hsz x (by simp)) (hsub x (by simp) he)) (ih y (hsz y (by simp)) (hsub y (by simp) he))
      · match l, hl with
        | [x, y], _ =>
          rw [ha (by decide), hbb (by decide), hn (by decide)]
          exact .or (ih x (hsz x (by simp)) (hsub x (by simp) he)) (ih y (hsz y (by simp)) (hsub y (by simp) he))
theorem askP_text {x : Ask} (hx : Good x) : ∀ (N left : Nat) (s : Bs), x.size ≤ N → x.size ≤ left → Stop s → askP N left (txt x ++ s) = some (x, s, left - x.size) := by
  induction hx with
  | @has a h =>
    intro N left s hN hl hs
    have e1 : txt (.mk 1 a [] 0 []) = 63 :: a := by simp [txt]
    have e2 : (Ask.mk 1 a [] 0 []).size = 1 := by simp [Ask.size, Ask.sizes]
    rw [e2] at hN hl ⊢
    cases N with
    | zero => omega
    | succ N =>
      obtain ⟨h1, h2⟩ := word_stop (lab_sgn h) hs
      rw [e1, List.cons_append, askP, if_neg (by omega)]
      simp only [h1, h2]
  | @is a b h h2 =>
    intro N left s hN hl hs
    have e1 : txt (.mk 2 a b 0 []) = a ++ 61 :: b := by simp [txt]
    have e2 : (Ask.mk 2 a b 0 []).size = 1 := by simp [Ask.size, Ask.sizes]
    rw [e2] at hN hl ⊢
    cases N with
    | zero => omega
    | succ N =>
      obtain ⟨h3, h4⟩ := word_stop (lab_sgn h) (stop61 (b ++ s))
      obtain ⟨h5, h6⟩ := word_stop (lab_sgn h2) hs
      rw [e1, List.append_assoc, List.cons_append, askP_word (by omega) (first_of (lab_ne h) (lab_sgn h)), h4]
      simp only [h3, h5, h6]
  | @more a n h h0 h1 =>
    intro N left s hN hl hs
    have e1 : txt (.mk 3 a [] n []) = a ++ 62 :: 61 :: dec n.toNat := by simp [txt]
    have e2 : (Ask.mk 3 a [] n []).size = 1 := by simp [Ask.size, Ask.sizes]
    rw [e2] at hN hl ⊢
    cases N with
    | zero => omega
    | succ N =>
      obtain ⟨h3, h4⟩ := word_stop (unit_sgn h) (stop62 (61 :: (dec n.toNat ++ s)))
      obtain ⟨h5, h6⟩ := word_stop (dec_sgn n.toNat) hs
      rw [e1, List.append_assoc, List.cons_append, List.cons_append, askP_word (by omega) (first_of (unit_ne h) (unit_sgn h)), h4]
      simp only [h3, h5, h6, parse_dec (show n.toNat < 9223372036854775808 from by omega)]
      rw [Int.toNat_of_nonneg h0]
  | @not y hy ih =>
    intro N left s hN hl hs
    have e2 : (Ask.mk 4 [] [] 0 [y]).size = 1 + y.size := by simp [Ask.size, Ask.sizes]
    rw [e2] at hN hl ⊢
    cases N with
    | zero => omega
    | succ N =>
      rw [txt4, List.cons_append, askP, if_neg (by omega)]
      simp only [ih N (left - 1) s (by omega) (by omega) hs]
      rw [show left - 1 - y.size = left - (1 + y.size) from by omega]
  | @and x y hx hy ihx ihy =>
    intro N left s hN hl hs
    have e2 : (Ask.mk 5 [] [] 0 [x, y]).size = 1 + (x.size + y.size) := by simp [Ask.size, Ask.sizes]
    rw [e2] at hN hl ⊢
    cases N with
    | zero => omega
    | succ N =>
      have e3 : 40 :: (txt x ++ 38 :: (txt y ++ [41])) ++ s = 40 :: (txt x ++ 38 :: (txt y ++ 41 :: s)) := by simp
      rw [txt5, e3, askP, if_neg (by omega)]
      simp only [ihx N (left - 1) _ (by omega) (by omega) (stop38 _), ihy N (left - 1 - x.size) _ (by omega) (by omega) (stop41 s)]
      rw [show left - 1 - x.size - y.size = left - (1 + (x.size + y.size)) from by omega]
  | @or x y hx hy ihx ihy =>
    intro N left s hN hl hs
    have e2 : (Ask.mk 6 [] [] 0 [x, y]).size = 1 + (x.size + y.size) := by simp [Ask.size, Ask.sizes]
    rw [e2] at hN hl ⊢
    cases N with
    | zero => omega
    | succ N =>
      have e3 : 40 :: (txt x ++ 124 :: (txt y ++ [41])) ++ s = 40 :: (txt x ++ 124 :: (txt y ++ 41 :: s)) := by simp
      rw [txt6, e3, askP, if_neg (by omega)]
      simp only [ihx N (left - 1) _ (by omega) (by omega) (stop124 _), ihy N (left - 1 - x.size) _ (by omega) (by omega) (stop41 s)]
      rw [show left - 1 - x.size - y.size = left - (1 + (x.size + y.size)) from by omega]
theorem askR_text {x : Ask} (hx : Good x) : ∀ (deep : Nat) (s : Bs), x.size ≤ deep → Stop s → askR deep (txt x ++ s) = some (x, s) := by
  induction hx with
  | @has a h =>
    intro N s hN hs
    have e1 : txt (.mk 1 a [] 0 []) = 63 :: a := by simp [txt]
    have e2 : (Ask.mk 1 a [] 0 []).size = 1 := by simp [Ask.size, Ask.sizes]
    rw [e2] at hN
    cases N with
    | zero => omega
    | succ N =>
      obtain ⟨h1, h2⟩ := word_stop (lab_sgn h) hs
      rw [e1, List.cons_append, askR]
      simp only [h1, h2]
  | @is a b h h2 =>
    intro N s hN hs
    have e1 : txt (.mk 2 a b 0 []) = a ++ 61 :: b := by simp [txt]
    have e2 : (Ask.mk 2 a b 0 []).size = 1 := by simp [Ask.size, Ask.sizes]
    rw [e2] at hN
    cases N with
    | zero => omega
    | succ N =>
      obtain ⟨h3, h4⟩ := word_stop (lab_sgn h) (stop61 (b ++ s))
      obtain ⟨h5, h6⟩ := word_stop (lab_sgn h2) hs
      rw [e1, List.append_assoc, List.cons_append, askR_word (by simp) (first_of (lab_ne h) (lab_sgn h)), h4]
      simp only [h3, h5, h6]
  | @more a n h h0 h1 =>
    intro N s hN hs
    have e1 : txt (.mk 3 a [] n []) = a ++ 62 :: 61 :: dec n.toNat := by simp [txt]
    have e2 : (Ask.mk 3 a [] n []).size = 1 := by simp [Ask.size, Ask.sizes]
    rw [e2] at hN
    cases N with
    | zero => omega
    | succ N =>
      obtain ⟨h3, h4⟩ := word_stop (unit_sgn h) (stop62 (61 :: (dec n.toNat ++ s)))
      obtain ⟨h5, h6⟩ := word_stop (dec_sgn n.toNat) hs
      rw [e1, List.append_assoc, List.cons_append, List.cons_append, askR_word (by simp) (first_of (unit_ne h) (unit_sgn h)), h4]
      simp only [h3, h5, h6, intOf_dec (show n.toNat < 9223372036854775808 from by omega)]
      rw [Int.toNat_of_nonneg h0]
  | @not y hy ih =>
    intro N s hN hs
    have e2 : (Ask.mk 4 [] [] 0 [y]).size = 1 + y.size := by simp [Ask.size, Ask.sizes]
    rw [e2] at hN
    cases N with
    | zero => omega
    | succ N =>
      rw [txt4, List.cons_append, askR]
      simp only [ih N s (by omega) hs]
  | @and x y hx hy ihx ihy =>
    intro N s hN hs
    have e2 : (Ask.mk 5 [] [] 0 [x, y]).size = 1 + (x.size + y.size) := by simp [Ask.size, Ask.sizes]
    rw [e2] at hN
    cases N with
    | zero => omega
    | succ N =>
      have e3 : 40 :: (txt x ++ 38 :: (txt y ++ [41])) ++ s = 40 :: (txt x ++ 38 :: (txt y ++ 41 :: s)) := by simp
      rw [txt5, e3, askR]
      simp only [ihx N _ (by omega) (stop38 _), ihy N _ (by omega) (stop41 s)]
  | @or x y hx hy ihx ihy =>
    intro N s hN hs
    have e2 : (Ask.mk 6 [] [] 0 [x, y]).size = 1 + (x.size + y.size) := by simp [Ask.size, Ask.sizes]
    rw [e2] at hN
    cases N with
    | zero => omega
    | succ N =>
      have e3 : 40 :: (txt x ++ 124 :: (txt y ++ [41])) ++ s = 40 :: (txt x ++ 124 :: (txt y ++ 41 :: s)) := by simp
      rw [txt6, e3, askR]
      simp only [ihx N _ (by omega) (stop124 _), ihy N _ (by omega) (stop41 s)]
/-- what is read, if it is right and its text is the text -/
def own (r : Option Ask) (s : Bs) : Option Ask := match r with | none => none | some x => if x.fault = 0 ∧ txt x = s then some x else none
def readP (s : Bs) : Option Ask := (askP 60 60 s).map (·.1)
/-- the document's: nothing may be left -/
def readR (s : Bs) : Option Ask := match askR 61 s with | some (x, []) => some x | _ => none
theorem fault_good {x : Ask} (h : x.fault = 0) : Good x ∧ x.size ≤ 60 := by
  unfold Ask.fault at h
  split at h
  · cases h
  · exact ⟨good_of x.size x (Nat.le_refl _) h, by omega⟩
theorem readP_text {x : Ask} (h : x.fault = 0) : readP (txt x) = some x := by
  obtain ⟨h1, h2⟩ := fault_good h
  have := askP_text h1 60 60 [] h2 h2 (.inl rfl)
  rw [List.append_nil] at this
  unfold readP
  rw [this]
  rfl
theorem readR_text {x : Ask} (h : x.fault = 0) : readR (txt x) = some x := by
  obtain ⟨h1, h2⟩ := fault_good h
  have := askR_text h1 61 [] (by omega) (.inl rfl)
  rw [List.append_nil] at this
  unfold readR
  rw [this]
theorem own_same (s : Bs) : own (readP s) s = own (readR s) s := by
  have key : ∀ {r r' : Option Ask}, (∀ x, x.fault = 0 → txt x = s → r' = some x) → ∀ x, own r s = some x → own r' s = some x := by
    intro r r' h2 x hx
    unfold own at hx
    split at hx
    · cases hx
    · rename_i y
      split at hx
      · rename_i ht
        injection hx with hx
        subst hx
        rw [h2 y ht.1 ht.2]
        unfold own
        simp only
        rw [if_pos ht]
      · cases hx
  have hPR := @key (readP s) (readR s) (fun x h ht => by rw [← ht]; exact readR_text h)
  have hRP := @key (readR s) (readP s) (fun x h ht => by rw [← ht]; exact readP_text h)
  cases h : own (readP s) s with
  | some v => exact (hPR v h).symm
  | none =>
    cases h' : own (readR s) s with
    | none => rfl
    | some v => rw [hRP v h'] at h; cases h
end Go.Proofs.YtkemlckmfgacdaaGreatDoor.Ar
/- Contracts: how many asks are in one; the program's and the document's. -/
namespace Go.Proofs.YtkemlckmfgacdaaGreatDoor
open Go.ChangeShapes Go.WideShapes Go.ChangeAt Go.RowKit
set_option linter.unusedVariables false
open Tp
set_option maxRecDepth 20000 in
set_option maxHeartbeats 4000000 in
theorem count_all : ∀ (N : Nat) (x : Ask) (v : Value) (w : World), x.size ≤ N → x.size ≤ 1000000000 → AskV w x v → Calls Tryz.prog 73 #[v] w fun e w' => e = .returned (.int .i64 (x.size : Int)) ∧ Below w.heap.size w w' := by
  intro N
  induction N with
  | zero => intro x v w h; have := Ask.one_le x; omega
  | succ N ih =>
    intro x v w hN hbig hv
    cases x with
    | mk k ka va nu l =>
    rw [AskV] at hv
    obtain ⟨ad, n, cap, rfl, hn, hcap, hmax, _, _, hrow⟩ := hv
    have HIH := Lib.hid ih
    have HR := Lib.hid hrow
    have HN := Lib.hid hn
    rw [Ask.size] at hN hbig
    obtain ⟨z, hz⟩ : ∃ z, Ask.sizes l = z := ⟨_, rfl⟩
    have HZ := Lib.hid hz
    have HSZ : Hid ((Ask.mk k ka va nu l).size = 1 + z) := Lib.hid (by rw [Ask.size, hz])
    rw [hz] at hN hbig
    obtain ⟨a1, ha1⟩ : ∃ a, bts ka = a := ⟨_, rfl⟩
    obtain ⟨a2, ha2⟩ : ∃ a, bts va = a := ⟨_, rfl⟩
    rw [ha1, ha2]
    rw [HSZ.out]
    clear ih hrow hn hz ha1 ha2
    go_enter Tryz.func73, Tryz.ntmps73
    go_wp2_with fail
    go_loopg [3, 9] n (fun g x y wr => ∃ (j : Nat) (q : Nat), j + g = n ∧ y = .int .i64 (j : Int) ∧ x = .int .i64 (q : Int) ∧ Hid (q = 1 + Ask.sizes (l.take j)) ∧ q ≤ 1000000000 ∧ Hid (Below w.heap.size w wr))
    case atStart => exact ⟨0, 1, by omega, rfl, rfl, Lib.hid (by simp [Ask.sizes]), by omega, Lib.hid ((Below.refl _ _).alloc (Nat.le_refl _) _)⟩
    case round =>
      obtain ⟨j, q, hj, rfl, rfl, HQ, hq, HB⟩ := hrel
      by_cases hjn : j < n
      · obtain ⟨y, hy⟩ : ∃ y, l[j]? = some y := ⟨_, List.getElem?_eq_getElem (by rw [← HN.out]; exact hjn)⟩
        obtain ⟨b, off, rfl, hb, hat⟩ := HR.out (by omega)
        obtain ⟨ad', len', cap', c0, c1, c2, c3, c4, hyv⟩ := (AsksV.below HB.out l b off hb hat).get hy
        have hbr : b < wr.heap.size := Nat.lt_of_lt_of_le hb HB.out.size
        have hj1 : (0 : Int) ≤ (j : Int) := by omega
        have hj2 : (j : Int) < (n : Int) := by omega
        obtain ⟨s, hs⟩ : ∃ s, y.size = s := ⟨_, rfl⟩
        have hs1 := Ask.sizes_at hy
        have hs2 : q + s ≤ 1 + z := by
          have := Ask.sizes_take hy
          have h3 := Ask.sizes_take_le l (j + 1)
          have := HQ.out
          have := HZ.out
          omega
        have HS : Hid (q + s = 1 + Ask.sizes (l.take (j + 1))) := Lib.hid (by
          have := Ask.sizes_take hy
          have := HQ.out
          omega)
        obtain ⟨k1, hk1⟩ : ∃ a, bts y.key = a := ⟨_, rfl⟩
        obtain ⟨k2, hk2⟩ : ∃ a, bts y.val = a := ⟨_, rfl⟩
        obtain ⟨k0, hk0⟩ : ∃ a, y.kind = a := ⟨_, rfl⟩
        obtain ⟨k3, hk3⟩ : ∃ a, y.num = a := ⟨_, rfl⟩
        rw [hk0] at c0 hyv
        rw [hk1] at c1 hyv
        rw [hk2] at c2 hyv
        rw [hk3] at c3 hyv
        obtain ⟨wx, hwx⟩ : ∃ wx, wx = wr.alloc (.cells #[.int .i64 k0, .string k1, .string k2, .int .i64 k3, .slice ad' len' cap'] 26) := ⟨_, rfl⟩
        have hb9 : Below wr.heap.size wr wx := by rw [hwx]; exact (Below.refl _ _).alloc (Nat.le_refl _) _
        have HBX : Hid (Below w.heap.size w wx) := Lib.hid (HB.out.trans (hb9.mono HB.out.size))
        have HC := Lib.hid (HIH.out y _ wx (by have := HZ.out; omega) (by have := HZ.out; omega) (AskV.below hb9 _ _ hyv))
        rw [hs] at HC
        have hw : IntKind.i64.wrap ((q : Int) + (s : Int)) = ((q + s : Nat) : Int) := by rw [IntWalk.i64_in _ (by omega)]; omega
        clear hat hy hyv hs hk0 hk1 hk2 hk3 hb9
        go_wp2_with fail
        rw [← hwx]
        refine Calls.mono HC.out ?_
        rintro e' W3 ⟨rfl, h1⟩
        have HB3 := Lib.hid (HBX.out.trans (h1.mono HBX.out.size))
        clear h1
        go_wp2_with fail
        go_roundg (n - (j + 1))
        case measure => omega
        case rel => exact ⟨j + 1, q + s, by omega, by simp, by simp, HS, by omega, HB3⟩
      · obtain rfl : j = n := by omega
        have HQ2 : Hid ((q : Int) = ((1 + z : Nat) : Int)) := Lib.hid (by
          have := HQ.out
          rw [HN.out, List.take_length, HZ.out] at this
          omega)
        go_wp2_with fail
        go_ret
        exact ⟨ret_int HQ2.out, HB.out⟩
set_option maxRecDepth 20000 in
set_option maxHeartbeats 4000000 in
theorem askSize_all : ∀ (N : Nat) (x : Ask) (v : Value) (w : World), x.size ≤ N → x.size ≤ 1000000000 → AskV w x v → Calls Tryz.prog 71 #[v] w fun e w' => e = .returned (.int .i64 (x.size : Int)) ∧ Below w.heap.size w w' := by
  intro N
  induction N with
  | zero => intro x v w h; have := Ask.one_le x; omega
  | succ N ih =>
    intro x v w hN hbig hv
    cases x with
    | mk k ka va nu l =>
    rw [AskV] at hv
    obtain ⟨ad, n, cap, rfl, hn, hcap, hmax, _, _, hrow⟩ := hv
    have HIH := Lib.hid ih
    have HR := Lib.hid hrow
    have HN := Lib.hid hn
    rw [Ask.size] at hN hbig
    obtain ⟨z, hz⟩ : ∃ z, Ask.sizes l = z := ⟨_, rfl⟩
    have HZ := Lib.hid hz
    have HSZ : Hid ((Ask.mk k ka va nu l).size = 1 + z) := Lib.hid (by rw [Ask.size, hz])
    rw [hz] at hN hbig
    obtain ⟨a1, ha1⟩ : ∃ a, bts ka = a := ⟨_, rfl⟩
    obtain ⟨a2, ha2⟩ : ∃ a, bts va = a := ⟨_, rfl⟩
    rw [ha1, ha2]
    rw [HSZ.out]
    clear ih hrow hn hz ha1 ha2
    go_enter Tryz.func71, Tryz.ntmps71
    go_wp2_with fail
    go_loopg [3, 9] n (fun g x y wr => ∃ (j : Nat) (q : Nat), j + g = n ∧ y = .int .i64 (j : Int) ∧ x = .int .i64 (q : Int) ∧ Hid (q = 1 + Ask.sizes (l.take j)) ∧ q ≤ 1000000000 ∧ Hid (Below w.heap.size w wr))
    case atStart => exact ⟨0, 1, by omega, rfl, rfl, Lib.hid (by simp [Ask.sizes]), by omega, Lib.hid ((Below.refl _ _).alloc (Nat.le_refl _) _)⟩
    case round =>
      obtain ⟨j, q, hj, rfl, rfl, HQ, hq, HB⟩ := hrel
      by_cases hjn : j < n
      · obtain ⟨y, hy⟩ : ∃ y, l[j]? = some y := ⟨_, List.getElem?_eq_getElem (by rw [← HN.out]; exact hjn)⟩
        obtain ⟨b, off, rfl, hb, hat⟩ := HR.out (by omega)
        obtain ⟨ad', len', cap', c0, c1, c2, c3, c4, hyv⟩ := (AsksV.below HB.out l b off hb hat).get hy
        have hbr : b < wr.heap.size := Nat.lt_of_lt_of_le hb HB.out.size
        have hj1 : (0 : Int) ≤ (j : Int) := by omega
        have hj2 : (j : Int) < (n : Int) := by omega
        obtain ⟨s, hs⟩ : ∃ s, y.size = s := ⟨_, rfl⟩
        have hs1 := Ask.sizes_at hy
        have hs2 : q + s ≤ 1 + z := by
          have := Ask.sizes_take hy
          have h3 := Ask.sizes_take_le l (j + 1)
          have := HQ.out
          have := HZ.out
          omega
        have HS : Hid (q + s = 1 + Ask.sizes (l.take (j + 1))) := Lib.hid (by
          have := Ask.sizes_take hy
          have := HQ.out
          omega)
        obtain ⟨k1, hk1⟩ : ∃ a, bts y.key = a := ⟨_, rfl⟩
        obtain ⟨k2, hk2⟩ : ∃ a, bts y.val = a := ⟨_, rfl⟩
        obtain ⟨k0, hk0⟩ : ∃ a, y.kind = a := ⟨_, rfl⟩
        obtain ⟨k3, hk3⟩ : ∃ a, y.num = a := ⟨_, rfl⟩
        rw [hk0] at c0 hyv
        rw [hk1] at c1 hyv
        rw [hk2] at c2 hyv
        rw [hk3] at c3 hyv
        obtain ⟨wx, hwx⟩ : ∃ wx, wx = wr.alloc (.cells #[.int .i64 k0, .string k1, .string k2, .int .i64 k3, .slice ad' len' cap'] 26) := ⟨_, rfl⟩
        have hb9 : Below wr.heap.size wr wx := by rw [hwx]; exact (Below.refl _ _).alloc (Nat.le_refl _) _
        have HBX : Hid (Below w.heap.size w wx) := Lib.hid (HB.out.trans (hb9.mono HB.out.size))
        have HC := Lib.hid (HIH.out y _ wx (by have := HZ.out; omega) (by have := HZ.out; omega) (AskV.below hb9 _ _ hyv))
        rw [hs] at HC
        have hw : IntKind.i64.wrap ((q : Int) + (s : Int)) = ((q + s : Nat) : Int) := by rw [IntWalk.i64_in _ (by omega)]; omega
        clear hat hy hyv hs hk0 hk1 hk2 hk3 hb9
        go_wp2_with fail
        rw [← hwx]
        refine Calls.mono HC.out ?_
        rintro e' W3 ⟨rfl, h1⟩
        have HB3 := Lib.hid (HBX.out.trans (h1.mono HBX.out.size))
        clear h1
        go_wp2_with fail
        go_roundg (n - (j + 1))
        case measure => omega
        case rel => exact ⟨j + 1, q + s, by omega, by simp, by simp, HS, by omega, HB3⟩
      · obtain rfl : j = n := by omega
        have HQ2 : Hid ((q : Int) = ((1 + z : Nat) : Int)) := Lib.hid (by
          have := HQ.out
          rw [HN.out, List.take_length, HZ.out] at this
          omega)
        go_wp2_with fail
        go_ret
        exact ⟨ret_int HQ2.out, HB.out⟩
theorem count_any (x : Ask) (v : Value) (w : World) (hs : x.size ≤ 1000000000) (hv : AskV w x v) : Calls Tryz.prog 73 #[v] w fun e w' => e = .returned (.int .i64 (x.size : Int)) ∧ Below w.heap.size w w' := count_all x.size x v w (Nat.le_refl _) hs hv
theorem askSize_any (x : Ask) (v : Value) (w : World) (hs : x.size ≤ 1000000000) (hv : AskV w x v) : Calls Tryz.prog 71 #[v] w fun e w' => e = .returned (.int .i64 (x.size : Int)) ∧ Below w.heap.size w w' := askSize_all x.size x v w (Nat.le_refl _) hs hv
end Go.Proofs.YtkemlckmfgacdaaGreatDoor
