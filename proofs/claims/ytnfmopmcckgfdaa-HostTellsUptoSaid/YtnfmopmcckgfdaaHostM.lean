/- Plain: hosts: what is wrong with a row of them; in memory. -/
import Derived.Test.YtnfmopmcckgfdaaAskHolds
import Derived.Test.YtnfmopmcckgfdaaNeedAdd
namespace Go.Proofs.Ytnfmopmcckgfdaa
open Go.ChangeShapes Go.WideShapes Go.ChangeAt Go.RowKit
set_option linter.unusedVariables false
open Tp
/-- what is wrong with a row of labels, some keys having stood ahead -/
def labsF (S : List Bs) : List Lab → Int
  | [] => 0
  | x :: l => if lab x.1 = false ∨ lab x.2 = false then 3 else if x.1 ∈ S then 6 else labsF (S ++ [x.1]) l
/-- .. with a host's amounts -/
def amtF (h : Hst) : Int := if needB h.has.cpu h.has.mem h.has.gpu = false then 4 else if needB h.used.cpu h.used.mem h.used.gpu = false then 4 else if fitsB h.used.cpu h.used.mem h.used.gpu h.has.cpu h.has.mem h.has.gpu = false then 10 else 0
/-- .. with a host, some names having stood ahead -/
def hostF (S : List Bs) (h : Hst) : Int := if lab h.name = false then 3 else if h.name ∈ S then 6 else if 8 < h.labels.length then 2 else if labsF [] h.labels ≠ 0 then labsF [] h.labels else amtF h
def hostsF (S : List Bs) : List Hst → Int
  | [] => 0
  | h :: l => if hostF S h ≠ 0 then hostF S h else hostsF (S ++ [h.name]) l
/-- .. with a row of hosts -/
def hostsE (L : List Hst) : Int := if 30 < L.length then 2 else hostsF [] L
def hnames (L : List Hst) : List Bs := L.map (·.name)
/-- the first j of a row of labels are right -/
def LabTo (l : List Lab) (j : Nat) : Prop := labsF [] l = labsF (keys (l.take j)) (l.drop j)
theorem LabTo.zero (l : List Lab) : LabTo l 0 := rfl
theorem LabTo.bad1 {l : List Lab} {j : Nat} {x : Lab} (h : LabTo l j) (hx : l[j]? = some x) (hb : lab x.1 = false ∨ lab x.2 = false) : labsF [] l = 3 := by
  unfold LabTo at h
  rw [h, drop_some hx, labsF, if_pos hb]
theorem LabTo.bad2 {l : List Lab} {j : Nat} {x : Lab} (h : LabTo l j) (hx : l[j]? = some x) (h1 : lab x.1 = true) (h2 : lab x.2 = true) (hb : x.1 ∈ keys (l.take j)) : labsF [] l = 6 := by
  unfold LabTo at h
  rw [h, drop_some hx, labsF, if_neg (by simp [h1, h2]), if_pos hb]
theorem LabTo.succ {l : List Lab} {j : Nat} {x : Lab} (h : LabTo l j) (hx : l[j]? = some x) (h1 : lab x.1 = true) (h2 : lab x.2 = true) (hb : ¬ x.1 ∈ keys (l.take j)) : LabTo l (j + 1) := by
  unfold LabTo at *
  rw [h, drop_some hx, labsF, if_neg (by simp [h1, h2]), if_neg hb, take_snoc hx]
  simp [keys]
theorem LabTo.fin {l : List Lab} {j : Nat} (h : LabTo l j) (hj : l.length ≤ j) : labsF [] l = 0 := by
  unfold LabTo at h
  rw [h, List.drop_eq_nil_of_le hj, labsF]
/-- the first j of a row of hosts are right -/
def HostTo (L : List Hst) (j : Nat) : Prop := hostsF [] L = hostsF (hnames (L.take j)) (L.drop j)
theorem HostTo.zero (L : List Hst) : HostTo L 0 := rfl
theorem HostTo.bad {L : List Hst} {j : Nat} {x : Hst} (h : HostTo L j) (hx : L[j]? = some x) (hb : hostF (hnames (L.take j)) x ≠ 0) : hostsF [] L = hostF (hnames (L.take j)) x := by
  unfold HostTo at h
  rw [h, drop_some hx, hostsF, if_pos hb]
theorem HostTo.succ {L : List Hst} {j : Nat} {x : Hst} (h : HostTo L j) (hx : L[j]? = some x) (hb : hostF (hnames (L.take j)) x = 0) : HostTo L (j + 1) := by
  unfold HostTo at *
  rw [h, drop_some hx, hostsF, if_neg (by simp [hb]), take_snoc hx]
  simp [hnames]
theorem HostTo.fin {L : List Hst} {j : Nat} (h : HostTo L j) (hj : L.length ≤ j) : hostsF [] L = 0 := by
  unfold HostTo at h
  rw [h, List.drop_eq_nil_of_le hj, hostsF]
/-- the cells of a host -/
def hcs (h : Hst) (la : Option Addr) (lc : Nat) : List Value := [.string (bts h.name), .slice la h.labels.length lc, .int .i64 h.has.cpu, .int .i64 h.has.mem, .int .i64 h.has.gpu, .int .i64 h.used.cpu, .int .i64 h.used.mem, .int .i64 h.used.gpu]
/-- its texts are no longer than a text can be -/
def HSz (h : Hst) : Prop := h.name.length ≤ 9223372036854775807 ∧ ∀ x, x ∈ h.labels → x.1.length ≤ 9223372036854775807 ∧ x.2.length ≤ 9223372036854775807
/-- eight cells that read as a host -/
def HostCells (w : World) (h : Hst) (b off : Nat) : Prop := ∃ la lc, (∀ i v, (hcs h la lc)[i]? = some v → w.cell? ⟨b, off + i, none⟩ = some v) ∧ h.labels.length ≤ lc ∧ h.labels.length ≤ 9223372036854775807 ∧ Labs w la h.labels ∧ HSz h
theorem HostCells.below {w w' : World} {h : Hst} {b off : Nat} (hc : HostCells w h b off) (hb : Below w.heap.size w w') (hlt : b < w.heap.size) : HostCells w' h b off := by
  obtain ⟨la, lc, h1, h2, h3, h4, h5⟩ := hc
  exact ⟨la, lc, fun i v hi => (hb.cell (p := ⟨b, off + i, none⟩) hlt).trans (h1 i v hi), h2, h3, h4.below hb (Nat.le_refl _), h5⟩
/-- a row of hosts -/
def Hosts (w : World) (a : Option Addr) (L : List Hst) : Prop := 0 < L.length → ∃ b off, a = some ⟨b, off, none⟩ ∧ b < w.heap.size ∧ ∀ i h, L[i]? = some h → HostCells w h b (off + i * 8)
theorem Hosts.below {w w' : World} {a : Option Addr} {L : List Hst} (h : Hosts w a L) (hb : Below w.heap.size w w') : Hosts w' a L := fun hl => by
  obtain ⟨b, off, e, h1, h2⟩ := h hl
  exact ⟨b, off, e, Nat.lt_of_lt_of_le h1 hb.size, fun i x hi => (h2 i x hi).below hb h1⟩
end Go.Proofs.Ytnfmopmcckgfdaa
