/- Contract: a slot's timers in the row in which they came. -/
import Derived.Test.YtjoejdpoehpkiaaWheelDel
import Derived.Test.YtjoejdpoehpkiaaShelf
import Derived.Shelf.SlSortCmp.WholeK
import Derived.Shelf.SlicesG.Cmp
namespace Go.Proofs.Ytjoejdpoehpkiaa
open Go.ChangeShapes Go.WideShapes Go.ChangeAt Go.RowKit
set_option linter.unusedVariables false
open Wh
instance : Inhabited Tm := ⟨⟨0, 0, 0⟩⟩
def encT (t : Tm) : List Value := [.int .i64 t.at', .int .i64 t.id, .int .i64 t.born]
def cfT (x y : Tm) : Int := Lib.compareInt x.born y.born
theorem ltT (x y : Tm) : Go.Proofs.ltOf cfT x y = decide (x.born < y.born) := by
  unfold Go.Proofs.ltOf cfT Lib.compareInt
  by_cases h1 : x.born < y.born
  · simp [h1]
  · by_cases h2 : y.born < x.born <;> simp [h1, h2]
theorem swoT : Go.Sort.SWO (Go.Proofs.ltOf cfT) where
  irrefl x := by rw [ltT]; simp
  trans x y z h1 h2 := by rw [ltT] at *; simp at *; omega
  ntrans x y z h1 h2 := by rw [ltT] at *; simp at *; omega
theorem enterSort : ∀ (args : Array Value) (w : World), (callFunc 21 args).run Try.prog w = .ok (.enter 21 args) w := fun args w => by kernel_rfl
set_option maxHeartbeats 1000000 in
theorem cmpT (x y : Tm) (W : World) : Calls Try.prog 21 #[.agg #[.int .i64 x.at', .int .i64 x.id, .int .i64 x.born], .agg #[.int .i64 y.at', .int .i64 y.id, .int .i64 y.born]] W fun e w' => e = .returned (.int .i64 (cfT x y)) ∧ ∃ q os', w' = Go.Sort.grow (W.drewN q) os' := by
  have hcon := fun W' => AnyG.cmp_Compare_int Try.cmpInt x.born y.born W'
  change ∀ W', Calls Try.prog 22 _ _ _ at hcon
  unfold cfT
  generalize Lib.compareInt x.born y.born = r at hcon ⊢
  go_enter Try.func21, Try.ntmps21
  go_wp2_with (go_at_call 22; refine (hcon _).mono ?_; rintro e w' ⟨rfl, rfl⟩)
  go_ret
  exact ⟨rfl, 0, _, by rw [Go.Sort.alloc_eq_grow, Go.Sort.alloc_eq_grow, Go.Sort.grow_grow]; rfl⟩
theorem laysT (blk off size : Nat) (w : World) : Go.Proofs.CmpLays Try.prog 21 #[] encT 3 cfT blk off size w := fun _ _ _ _ x y => cmpT x y _
theorem heap_sortedT {w : World} {g n : Nat} {os : Array Obj} {cur : Array Value} {e : TypeId} {fr : Nat × Nat} (d : Array Tm) (hb : w.heap[g]? = some (.cells cur e fr)) :
    (Go.Proofs.sortWorldK encT 3 w g 0 n d os).heap[g]? = some (.cells (Go.Sort.putCells id 0 (Go.Sort.flatK encT 3 d) cur) e fr) := by
  have hg : g < w.heap.size := (Array.getElem?_eq_some_iff.1 hb).1
  unfold Go.Proofs.sortWorldK Go.Sort.putRowK
  rw [Go.Sort.heap_grow_old _ _ (by simpa using hg)]
  simp [Go.Sort.putRow, Go.Sort.mapBlock, Go.Sort.ahead, Array.getElem?_modify, hb, Go.Sort.onCells]
theorem kept_sortedT {w : World} {g n : Nat} {os : Array Obj} (d : Array Tm) (hg : g < w.heap.size) : Kept (fun k => k = g) w (Go.Proofs.sortWorldK encT 3 w g 0 n d os) := by
  unfold Go.Proofs.sortWorldK Go.Sort.putRowK
  refine ⟨rfl, rfl, rfl, by simp, fun k hk hne => ?_⟩
  rw [Go.Sort.heap_grow_old _ _ (by simpa using hk)]
  have : g ≠ k := fun e => hne e.symm
  simp [Go.Sort.putRow, Go.Sort.mapBlock, Go.Sort.ahead, Array.getElem?_modify, this]
set_option maxHeartbeats 1000000 in
theorem sort_any (L : List Tm) (g n cap : Nat) (f : Nat → Value) (w : World) (hr : w.rowIs g 51 (cap * 3) f) (hn : n ≤ cap) (hln : L.length = n) (hm : n ≤ 1000) (hx : ∀ (p : Nat) (t : Tm), L[p]? = some t → TmAt f p t) (hb : (L.map Tm.born).Nodup) :
    Calls Try.prog 20 #[.slice (some ⟨g, 0, none⟩) n cap, .func (.func 21) #[] #[]] w fun e w' => e = .returned (.tuple #[]) ∧ ∃ L' : List Tm, L'.Perm L ∧ L'.Pairwise (fun a b => a.born < b.born) ∧ (∃ f', w'.rowIs g 51 (cap * 3) f' ∧ ∀ (p : Nat) (t : Tm), L'[p]? = some t → TmAt f' p t) ∧ Kept (fun k => k = g) w w' := by
  have hsz : L.toArray.size = n := by simp [hln]
  have hfl : ∀ (d : Array Tm) (p : Nat) (t : Tm) (c : Nat), d[p]? = some t → c < 3 → p * 3 + c < d.size * 3 ∧ (Go.Sort.flatK encT 3 d)[p * 3 + c]! = (encT t)[c]! := fun d p t c hp hc => by
    have hpl := (Array.getElem?_eq_some_iff.1 hp).1
    have h1 : p * 3 + c < d.size * 3 := by omega
    refine ⟨h1, ?_⟩
    rw [Go.Sort.get_flatK _ _ _ _ h1, show (p * 3 + c) / 3 = p from by omega, show (p * 3 + c) % 3 = c from by omega]
    congr 1
    rw [getElem!_pos d p hpl]
    congr 1
    exact (Array.getElem?_eq_some_iff.1 hp).2
  have hH : Go.Sort.HoldsK encT 3 w g 0 L.toArray := fun j hj => by
    rw [Go.Sort.size_flatK, hsz] at hj
    have hp : L[j / 3]? = some L[j / 3] := List.getElem?_eq_getElem (by omega)
    obtain ⟨h1, h2, h3⟩ := hx _ _ hp
    have hq : L.toArray[j / 3]? = some L[j / 3] := by simp [hp]
    obtain ⟨_, h4⟩ := hfl L.toArray (j / 3) L[j / 3] (j % 3) hq (by omega)
    rw [show j / 3 * 3 + j % 3 = j from by omega] at h4
    refine ⟨?_, hr.frozen _⟩
    rw [Nat.zero_add, hr.cell (by omega), h4]
    have hm3 : j % 3 = 0 ∨ j % 3 = 1 ∨ j % 3 = 2 := by omega
    rcases hm3 with e | e | e <;> rw [e]
    · rw [show j / 3 * 3 = j from by omega] at h1; rw [h1]; rfl
    · rw [show j / 3 * 3 + 1 = j from by omega] at h2; rw [h2]; rfl
    · rw [show j / 3 * 3 + 2 = j from by omega] at h3; rw [h3]; rfl
  have hcon := AnyQ.slices_SortFunc Try.sortT 3 Try.isAgg51 Try.sizeOf51 encT (fun _ => rfl) (fun x v hv => by simp [encT] at hv; rcases hv with rfl | rfl | rfl <;> rfl) cfT swoT 21 #[] g 0 cap L.toArray w enterSort (laysT g 0 L.toArray.size w) hH hr.lt (by omega)
  rw [hsz] at hcon
  change Calls Try.prog 20 _ _ _ at hcon
  refine hcon.mono ?_
  rintro e w' ⟨rfl, d', n', os, ⟨hp1, _, hp3⟩, hs, rfl⟩
  have hsz' : d'.size = n := by rw [hp1, hsz]
  have hperm : d'.toList.Perm L := by
    have e1 : d'.extract 0 n = d' := by rw [← hsz']; simp
    have e2 : L.toArray.extract 0 n = L.toArray := by rw [← hsz]; simp
    rw [e1, e2] at hp3
    exact hp3
  refine ⟨rfl, d'.toList, hperm, List.pairwise_iff_getElem.2 fun i j hi hj hij => ?_, ?_, kept_sortedT d' hr.lt⟩
  · have hi' : i < d'.size := by simpa using hi
    have hj' : j < d'.size := by simpa using hj
    have h1 := hs i j (Nat.zero_le _) hij (by omega)
    rw [ltT, getElem!_pos d' i hi', getElem!_pos d' j hj'] at h1
    have h2 : ¬ d'[j].born < d'[i].born := by simpa using h1
    have h3 : (d'.toList.map Tm.born).Nodup := (hperm.map Tm.born).nodup_iff.2 hb
    have h4 := List.pairwise_iff_getElem.1 h3 i j (by simpa using hi') (by simpa using hj') hij
    simp only [List.getElem_map, Array.getElem_toList] at h4 ⊢
    omega
  · obtain ⟨cur, h1, h2, h3⟩ := hr
    refine ⟨fun i => (Go.Sort.putCells id 0 (Go.Sort.flatK encT 3 d') cur)[i]?.getD undef, ⟨_, heap_sortedT d' h1, by simp [Go.Sort.putCells, h2], fun i hi => ?_⟩, fun p t hp => ?_⟩
    · obtain ⟨u, hu⟩ : ∃ u, (Go.Sort.putCells id 0 (Go.Sort.flatK encT 3 d') cur)[i]? = some u := ⟨_, Array.getElem?_eq_getElem (by simpa [Go.Sort.putCells, h2] using hi)⟩
      simp [hu]
    · have hp' : d'[p]? = some t := by simpa using hp
      have hpl := (Array.getElem?_eq_some_iff.1 hp').1
      have key : ∀ c, c < 3 → (Go.Sort.putCells id 0 (Go.Sort.flatK encT 3 d') cur)[p * 3 + c]?.getD undef = (encT t)[c]! := fun c hc => by
        obtain ⟨h4, h5⟩ := hfl d' p t c hp' hc
        rw [← h5]
        have h6 : p * 3 + c < cur.size := by omega
        simp [Go.Sort.putCells, h6, h4]
      exact ⟨by have := key 0 (by omega); rw [Nat.add_zero] at this; exact this, key 1 (by omega), key 2 (by omega)⟩
end Go.Proofs.Ytjoejdpoehpkiaa
