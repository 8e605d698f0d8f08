/- Three appends in whatever order: the rows are of three kinds. -/
import Derived.Test.YtfjoakhcgpckgaaShareRef3
import Derived.Test.YtfjoakhcgpckgaaAnyOrder
import Derived.Test.YtfjoakhcgpckgaaSevenSlots
import Derived.Deep.RegionLaw
namespace Go.Proofs.Ytfjoakhcgpckgaa
open Go.ChangeShapes Go.WideShapes Go.ChangeAt Go.RowKit
set_option linter.unusedVariables false
open Sh St
/-- three rows of the call's own, of three kinds, and the variable that holds one of them -/
structure Tri (B : Nat) (p : Value) (w0 : World) (vr : Value) (nr : Nat) (xr : List Value) (vs : Value) (ns : Nat) (xs : List Value) (vo : Value) (no : Nat) (xo : List Value) (w : World) : Prop where
  r : w.ownsRow (B + 1) 3 1 vr nr xr
  s : w.ownsRow (B + 1) 214 1 vs ns xs
  o : w.ownsRow (B + 1) 2 1 vo no xo
  ptr : w.heap[B]? = some (.cells #[p] 213 (0, 0))
  bel : Below B w0 w
theorem own_ne {w : World} {base n base' n' : Nat} {e e' : TypeId} {v v' : Value} {xs xs' : List Value} (h : w.ownsRow base e 1 v n xs) (h' : w.ownsRow base' e' 1 v' n' xs') (he : e ≠ e') (k : Nat) (hk : v.ownBlock = some k) : v'.ownBlock ≠ some k := by
  intro hk'
  rcases h.2 with ⟨rfl, _⟩ | ⟨g, cap, cur, rfl, _, hg, _⟩
  · cases hk
  · rcases h'.2 with ⟨rfl, _⟩ | ⟨g', cap', cur', rfl, _, hg', _⟩
    · cases hk'
    · simp only [Value.ownBlock, Option.some.injEq] at hk hk'
      subst hk hk'
      rw [hg] at hg'
      simp only [Option.some.injEq, Obj.cells.injEq] at hg'
      exact he hg'.2.1
theorem own_grown {w w' : World} {base n base' n' : Nat} {e e' : TypeId} {v v' : Value} {xs xs' : List Value} (h : w.ownsRow base e 1 v n xs) (h' : w.ownsRow base' e' 1 v' n' xs') (he : e ≠ e') (hg : w.grownBy w' v'.ownBlock) : w'.ownsRow base e 1 v n xs := by
  refine ⟨h.1, ?_⟩
  rcases h.2 with hn | ⟨g, cap, cur, rfl, hbg, hg2, rest⟩
  · exact .inl hn
  · refine .inr ⟨g, cap, cur, rfl, hbg, ?_, rest⟩
    rw [hg.block g (Array.getElem?_eq_some_iff.1 hg2).1 (fun h2 => own_ne h h' he g rfl h2.symm)]
    exact hg2
theorem pend_grown {w w' : World} {base n b : Nat} {e t : TypeId} {v : Value} {xs : List Value} {cs : Array Value} {fr : Nat × Nat} (h : w.ownsRow base e 1 v n xs) (hg : w.grownBy w' v.ownBlock) (hb : w.heap[b]? = some (.cells cs t fr)) (ht : t ≠ e) : w'.heap[b]? = some (.cells cs t fr) := by
  rw [hg.block b (Array.getElem?_eq_some_iff.1 hb).1 (fun h2 => ?_)]
  · exact hb
  · rcases h.2 with ⟨rfl, _⟩ | ⟨g, cap, cur, rfl, _, hg2, _⟩
    · cases h2
    · simp only [Value.ownBlock, Option.some.injEq] at h2
      subst h2
      rw [hb] at hg2
      simp only [Option.some.injEq, Obj.cells.injEq] at hg2
      exact ht hg2.2.1
theorem pend_alloc {w : World} {b : Nat} {o o' : Obj} (hb : w.heap[b]? = some o) : (w.alloc o').heap[b]? = some o := by
  rw [Below.heap_alloc w o' b (Array.getElem?_eq_some_iff.1 hb).1]; exact hb
section
variable {B : Nat} {p : Value} {w0 : World} {vr vs vo : Value} {nr ns no : Nat} {xr xs xo : List Value} {w w' : World}
theorem Tri.alloc (h : Tri B p w0 vr nr xr vs ns xs vo no xo w) (ob : Obj) : Tri B p w0 vr nr xr vs ns xs vo no xo (w.alloc ob) :=
  ⟨h.r.alloc _, h.s.alloc _, h.o.alloc _, pend_alloc h.ptr, h.bel.alloc (by have := h.bel.size; have := (Array.getElem?_eq_some_iff.1 h.ptr).1; omega) _⟩
theorem Tri.drew (h : Tri B p w0 vr nr xr vs ns xs vo no xo w) : Tri B p w0 vr nr xr vs ns xs vo no xo w.drew := ⟨h.r, h.s, h.o, h.ptr, h.bel.drew⟩
theorem Tri.gr {vr' : Value} {nr' : Nat} {xr' : List Value} (h : Tri B p w0 vr nr xr vs ns xs vo no xo w) (hg : w.grownBy w' vr.ownBlock) (hr : w'.ownsRow (B + 1) 3 1 vr' nr' xr') : Tri B p w0 vr' nr' xr' vs ns xs vo no xo w' :=
  ⟨hr, own_grown h.s h.r (by decide) hg, own_grown h.o h.r (by decide) hg, pend_grown h.r hg h.ptr (by decide), h.bel.grown hg (by have := (Array.getElem?_eq_some_iff.1 h.ptr).1; omega) (ownBlock_ge h.r (by omega))⟩
theorem Tri.gs {vr' : Value} {nr' : Nat} {xr' : List Value} (h : Tri B p w0 vr nr xr vs ns xs vo no xo w) (hg : w.grownBy w' vs.ownBlock) (hr : w'.ownsRow (B + 1) 214 1 vr' nr' xr') : Tri B p w0 vr nr xr vr' nr' xr' vo no xo w' :=
  ⟨own_grown h.r h.s (by decide) hg, hr, own_grown h.o h.s (by decide) hg, pend_grown h.s hg h.ptr (by decide), h.bel.grown hg (by have := (Array.getElem?_eq_some_iff.1 h.ptr).1; omega) (ownBlock_ge h.s (by omega))⟩
theorem Tri.go {vr' : Value} {nr' : Nat} {xr' : List Value} (h : Tri B p w0 vr nr xr vs ns xs vo no xo w) (hg : w.grownBy w' vo.ownBlock) (hr : w'.ownsRow (B + 1) 2 1 vr' nr' xr') : Tri B p w0 vr nr xr vs ns xs vr' nr' xr' w' :=
  ⟨own_grown h.r h.o (by decide) hg, own_grown h.s h.o (by decide) hg, hr, pend_grown h.o hg h.ptr (by decide), h.bel.grown hg (by have := (Array.getElem?_eq_some_iff.1 h.ptr).1; omega) (ownBlock_ge h.o (by omega))⟩
theorem Tri.cell (h : Tri B p w0 vr nr xr vs ns xs vo no xo w) : w.cell? ⟨B, 0, none⟩ = some p ∧ w.frozen? ⟨B, 0, none⟩ = false ∧ B < w.heap.size := by
  have hp := h.ptr
  refine ⟨?_, ?_, (Array.getElem?_eq_some_iff.1 h.ptr).1⟩
  · simp [World.cell?, hp]
  · simp [World.frozen?, hp]
theorem own_set {base n : Nat} {e : TypeId} {v : Value} {xs : List Value} (h : w.ownsRow (B + 1) e 1 v n xs) (u : Value) : (w.setCell ⟨B, 0, none⟩ u).ownsRow (B + 1) e 1 v n xs := by
  refine ⟨h.1, ?_⟩
  rcases h.2 with hn | ⟨g, cap, cur, rfl, hbg, hg2, rest⟩
  · exact .inl hn
  · refine .inr ⟨g, cap, cur, rfl, hbg, ?_, rest⟩
    rw [← hg2]
    have hne : ¬ B = g := by omega
    simp [World.setCell, Array.getElem?_modify, hne]
theorem Tri.store (h : Tri B p w0 vr nr xr vs ns xs vo no xo w) (u : Value) : Tri B u w0 vr nr xr vs ns xs vo no xo (w.setCell ⟨B, 0, none⟩ u) :=
  ⟨own_set (base := 0) h.r u, own_set (base := 0) h.s u, own_set (base := 0) h.o u, by have hp := h.ptr; simp [World.setCell, Array.getElem?_modify, hp], h.bel.setCell (p := ⟨B, 0, none⟩) (Nat.le_refl _) _⟩
end
theorem Tri.drewN {B : Nat} {p : Value} {w0 : World} {vr vs vo : Value} {nr ns no : Nat} {xr xs xo : List Value} {w : World} (h : Tri B p w0 vr nr xr vs ns xs vo no xo w) (m : Nat) : Tri B p w0 vr nr xr vs ns xs vo no xo (w.drewN m) := by
  have he : (w.drewN m).heap = w.heap := by simp
  refine ⟨?_, ?_, ?_, by rw [he]; exact h.ptr, below_drewN h.bel m⟩
  · have := h.r; unfold World.ownsRow at this ⊢; rwa [he]
  · have := h.s; unfold World.ownsRow at this ⊢; rwa [he]
  · have := h.o; unfold World.ownsRow at this ⊢; rwa [he]
theorem heap_alloc_at {w : World} {o : Obj} {H : Nat} (h : w.heap.size = H) : (w.alloc o).heap[H]? = some o := h ▸ heap_alloc_new w o
theorem infoU64W : (Try.prog.info? 214).map (fun i => (i.zero, i.size, i.bytes)) = some (some (.int .u64 0), 1, 8) := by kernel_rfl
theorem step_push {P : Program} (w : World) {ops : Array Oper} {o : Oper} {a : Act} {K : Act → World → Prop} {Q : Exit → Act → World → Prop} {E : Prop} (hgd : o.guard = none) (s x : Operand) (t : TypeId)
    (ho : o.op = .call { callee := .builtin .append, args := #[s, x], argTypes := #[t, t] })
    (base : Nat) (e : TypeId) (z : Value) (bytes : Nat) (ht : P.underlying t = some (.slice e)) (hinfo : (P.info? e).map (fun i => (i.zero, i.size, i.bytes)) = some (some z, 1, bytes)) (hz1 : z.cells.size = 1)
    (v : Value) (n : Nat) (xs : List Value) (hs : a.eval s = v) (hown : w.ownsRow base e 1 v n xs)
    (H : Nat) (u : Value) (hx : a.eval x = .slice (some ⟨H, 0, none⟩) 1 1) (hH : w.heap[H]? = some (.cells #[u] e (0, 0))) (hu : u.oneCell' = true)
    (h63 : n + 1 ≤ maxLen) (hbytes : (n + 1) * bytes ≤ 140737488355328) (hbase : base ≤ w.heap.size)
    (h : ∀ g cap w', w'.ownsRow base e 1 (.slice (some ⟨g, 0, none⟩) (n + 1) cap) (n + 1) (xs ++ [u]) → w.grownBy w' v.ownBlock → K (a.put o.dst (.slice (some ⟨g, 0, none⟩) (n + 1) cap)) w') :
    if Region.wanted o (yielded ops a.tmps) = true then Oper.wp P o a w K Q else E := by
  obtain ⟨i, hi, hz0, hzs, hzb⟩ := info_parts hinfo
  exact step_append_lies w hgd s x t ho base e i z 1 bytes ht hi hz0 hzs hzb hz1 (by decide) v n xs hs hown ⟨H, 0, none⟩ 1 1 [u] hx rfl (World.news_of_block hH) (by simpa using hu) (by decide) h63 hbytes hbase _ rfl (fun g cap w' h1 h2 _ _ => h g cap w' h1 h2)
theorem gset {l : Array Bool} {j : Nat} (h : j < l.size) (k : Nat) : (l.setIfInBounds j true).getD k true = if k = j then true else l.getD k true := by
  by_cases e : k = j
  · subst e; simp [Array.getD_eq_getD_getElem?, h]
  · have e2 : ¬ j = k := fun h => e h.symm
    simp [Array.getD_eq_getD_getElem?, e, e2]
/-- what is held in the midst of the three appends -/
structure JJ (gb i : Nat) (vr : Value) (xr : List Value) (vs : Value) (xs : List Value) (vo : Value) (xo : List Value) (u1 u2 u3 : Value) (w0 : World) (l : Array Bool) (x70 x71 x72 x74 x75 x79 x80 : Value) (w : World) : Prop where
  size : l.size = 16
  pure : ∀ k, k ∈ [0, 1, 5, 8, 9, 10] → l.getD k true = true
  tail : ∀ k, 13 ≤ k → k < 16 → l.getD k true = false
  ptr : w.heap[gb]? = some (.cells #[vs] 213 (0, 0))
  bel : Below gb w0 w
  t72 : l.getD 4 true = true → x72 = vs
  r0 : l.getD 3 true = false → w.ownsRow (gb + 1) 3 1 vr i xr
  r1 : l.getD 3 true = true → ∃ g cap, x71 = .slice (some ⟨g, 0, none⟩) (i + 1) cap ∧ w.ownsRow (gb + 1) 3 1 (.slice (some ⟨g, 0, none⟩) (i + 1) cap) (i + 1) (xr ++ [u1])
  rb : l.getD 2 true = true → l.getD 3 true = false → ∃ b, x70 = .slice (some ⟨b, 0, none⟩) 1 1 ∧ w.heap[b]? = some (.cells #[u1] 3 (0, 0))
  s0 : l.getD 7 true = false → w.ownsRow (gb + 1) 214 1 vs i xs
  s1 : l.getD 7 true = true → ∃ g cap, x75 = .slice (some ⟨g, 0, none⟩) (i + 1) cap ∧ w.ownsRow (gb + 1) 214 1 (.slice (some ⟨g, 0, none⟩) (i + 1) cap) (i + 1) (xs ++ [u2])
  sb : l.getD 6 true = true → l.getD 7 true = false → ∃ b, x74 = .slice (some ⟨b, 0, none⟩) 1 1 ∧ w.heap[b]? = some (.cells #[u2] 214 (0, 0))
  o0 : l.getD 12 true = false → w.ownsRow (gb + 1) 2 1 vo i xo
  o1 : l.getD 12 true = true → ∃ g cap, x80 = .slice (some ⟨g, 0, none⟩) (i + 1) cap ∧ w.ownsRow (gb + 1) 2 1 (.slice (some ⟨g, 0, none⟩) (i + 1) cap) (i + 1) (xo ++ [u3])
  ob : l.getD 11 true = true → l.getD 12 true = false → ∃ b, x79 = .slice (some ⟨b, 0, none⟩) 1 1 ∧ w.heap[b]? = some (.cells #[u3] 2 (0, 0))
section
variable {gb i : Nat} {vr vs vo : Value} {xr xs xo : List Value} {u1 u2 u3 : Value} {w0 : World} {l : Array Bool} {x70 x71 x72 x74 x75 x79 x80 : Value} {w w' : World}
theorem JJ.lt (h : JJ gb i vr xr vs xs vo xo u1 u2 u3 w0 l x70 x71 x72 x74 x75 x79 x80 w) : gb < w.heap.size := (Array.getElem?_eq_some_iff.1 h.ptr).1
theorem JJ.load (h : JJ gb i vr xr vs xs vo xo u1 u2 u3 w0 l x70 x71 x72 x74 x75 x79 x80 w) : JJ gb i vr xr vs xs vo xo u1 u2 u3 w0 (l.setIfInBounds 4 true) x70 x71 vs x74 x75 x79 x80 w := by
  have hs := h.size
  have hg := gset (l := l) (j := 4) (by omega)
  refine ⟨by simpa using hs, fun k hk => ?_, fun k h1 h2 => ?_, h.ptr, h.bel, fun _ => rfl, ?_, ?_, ?_, ?_, ?_, ?_, ?_, ?_, ?_⟩
  · rw [hg]; split; · rfl
    exact h.pure k hk
  · rw [hg, if_neg (by omega)]; exact h.tail k h1 h2
  · rw [hg, if_neg (by decide)]; exact h.r0
  · rw [hg, if_neg (by decide)]; exact h.r1
  · rw [hg, hg, if_neg (by decide), if_neg (by decide)]; exact h.rb
  · rw [hg, if_neg (by decide)]; exact h.s0
  · rw [hg, if_neg (by decide)]; exact h.s1
  · rw [hg, hg, if_neg (by decide), if_neg (by decide)]; exact h.sb
  · rw [hg, if_neg (by decide)]; exact h.o0
  · rw [hg, if_neg (by decide)]; exact h.o1
  · rw [hg, hg, if_neg (by decide), if_neg (by decide)]; exact h.ob
theorem JJ.buildr (h : JJ gb i vr xr vs xs vo xo u1 u2 u3 w0 l x70 x71 x72 x74 x75 x79 x80 w) : JJ gb i vr xr vs xs vo xo u1 u2 u3 w0 (l.setIfInBounds 2 true) (.slice (some ⟨w.heap.size, 0, none⟩) 1 1) x71 x72 x74 x75 x79 x80 (w.alloc (.cells #[u1] 3)) := by
  have hs := h.size
  have hg := gset (l := l) (j := 2) (by omega)
  refine ⟨by simpa using hs, fun k hk => ?_, fun k h1 h2 => ?_, pend_alloc h.ptr, h.bel.alloc (by have := h.lt; omega) _, ?_, ?_, ?_, ?_, ?_, ?_, ?_, ?_, ?_, ?_⟩
  · rw [hg]; split; · rfl
    exact h.pure k hk
  · rw [hg, if_neg (by omega)]; exact h.tail k h1 h2
  · rw [hg, if_neg (by decide)]; exact h.t72
  · rw [hg, if_neg (by decide)]; exact fun hl => (h.r0 hl).alloc _
  · rw [hg, if_neg (by decide)]; exact fun hl => (by obtain ⟨g, cap, e, ho⟩ := h.r1 hl; exact ⟨g, cap, e, ho.alloc _⟩)
  · exact fun _ _ => ⟨_, rfl, heap_alloc_new _ _⟩
  · rw [hg, if_neg (by decide)]; exact fun hl => (h.s0 hl).alloc _
  · rw [hg, if_neg (by decide)]; exact fun hl => (by obtain ⟨g, cap, e, ho⟩ := h.s1 hl; exact ⟨g, cap, e, ho.alloc _⟩)
  · rw [hg, hg, if_neg (by decide), if_neg (by decide)]; exact fun hl hl2 => (by obtain ⟨b, e, hb⟩ := h.sb hl hl2; exact ⟨b, e, pend_alloc hb⟩)
  · rw [hg, if_neg (by decide)]; exact fun hl => (h.o0 hl).alloc _
  · rw [hg, if_neg (by decide)]; exact fun hl => (by obtain ⟨g, cap, e, ho⟩ := h.o1 hl; exact ⟨g, cap, e, ho.alloc _⟩)
  · rw [hg, hg, if_neg (by decide), if_neg (by decide)]; exact fun hl hl2 => (by obtain ⟨b, e, hb⟩ := h.ob hl hl2; exact ⟨b, e, pend_alloc hb⟩)
theorem JJ.appr {g cap : Nat} (h : JJ gb i vr xr vs xs vo xo u1 u2 u3 w0 l x70 x71 x72 x74 x75 x79 x80 w) (hl : l.getD 3 true = false) (hgr : w.grownBy w' vr.ownBlock) (hown : w'.ownsRow (gb + 1) 3 1 (.slice (some ⟨g, 0, none⟩) (i + 1) cap) (i + 1) (xr ++ [u1])) : JJ gb i vr xr vs xs vo xo u1 u2 u3 w0 (l.setIfInBounds 3 true) x70 (.slice (some ⟨g, 0, none⟩) (i + 1) cap) x72 x74 x75 x79 x80 w' := by
  have hs := h.size
  have hg := gset (l := l) (j := 3) (by omega)
  have ho := h.r0 hl
  refine ⟨by simpa using hs, fun k hk => ?_, fun k h1 h2 => ?_, pend_grown ho hgr h.ptr (by decide), h.bel.grown hgr (by have := h.lt; omega) (ownBlock_ge ho (by omega)), ?_, ?_, ?_, ?_, ?_, ?_, ?_, ?_, ?_, ?_⟩
  · rw [hg]; split; · rfl
    exact h.pure k hk
  · rw [hg, if_neg (by omega)]; exact h.tail k h1 h2
  · rw [hg, if_neg (by decide)]; exact h.t72
  · rw [hg, if_pos rfl]; exact fun hl => (by cases hl)
  · exact fun _ => ⟨g, cap, rfl, hown⟩
  · rw [hg, hg, if_pos rfl]; exact fun _ hl => (by cases hl)
  · rw [hg, if_neg (by decide)]; exact fun hl => own_grown (h.s0 hl) ho (by decide) hgr
  · rw [hg, if_neg (by decide)]; exact fun hl => (by obtain ⟨g, cap, e, ho2⟩ := h.s1 hl; exact ⟨g, cap, e, own_grown ho2 ho (by decide) hgr⟩)
  · rw [hg, hg, if_neg (by decide), if_neg (by decide)]; exact fun hl hl2 => (by obtain ⟨b, e, hb⟩ := h.sb hl hl2; exact ⟨b, e, pend_grown ho hgr hb (by decide)⟩)
  · rw [hg, if_neg (by decide)]; exact fun hl => own_grown (h.o0 hl) ho (by decide) hgr
  · rw [hg, if_neg (by decide)]; exact fun hl => (by obtain ⟨g, cap, e, ho2⟩ := h.o1 hl; exact ⟨g, cap, e, own_grown ho2 ho (by decide) hgr⟩)
  · rw [hg, hg, if_neg (by decide), if_neg (by decide)]; exact fun hl hl2 => (by obtain ⟨b, e, hb⟩ := h.ob hl hl2; exact ⟨b, e, pend_grown ho hgr hb (by decide)⟩)
theorem JJ.builds (h : JJ gb i vr xr vs xs vo xo u1 u2 u3 w0 l x70 x71 x72 x74 x75 x79 x80 w) : JJ gb i vr xr vs xs vo xo u1 u2 u3 w0 (l.setIfInBounds 6 true) x70 x71 x72 (.slice (some ⟨w.heap.size, 0, none⟩) 1 1) x75 x79 x80 (w.alloc (.cells #[u2] 214)) := by
  have hs := h.size
  have hg := gset (l := l) (j := 6) (by omega)
  refine ⟨by simpa using hs, fun k hk => ?_, fun k h1 h2 => ?_, pend_alloc h.ptr, h.bel.alloc (by have := h.lt; omega) _, ?_, ?_, ?_, ?_, ?_, ?_, ?_, ?_, ?_, ?_⟩
  · rw [hg]; split; · rfl
    exact h.pure k hk
  · rw [hg, if_neg (by omega)]; exact h.tail k h1 h2
  · rw [hg, if_neg (by decide)]; exact h.t72
  · rw [hg, if_neg (by decide)]; exact fun hl => (h.r0 hl).alloc _
  · rw [hg, if_neg (by decide)]; exact fun hl => (by obtain ⟨g, cap, e, ho⟩ := h.r1 hl; exact ⟨g, cap, e, ho.alloc _⟩)
  · rw [hg, hg, if_neg (by decide), if_neg (by decide)]; exact fun hl hl2 => (by obtain ⟨b, e, hb⟩ := h.rb hl hl2; exact ⟨b, e, pend_alloc hb⟩)
  · rw [hg, if_neg (by decide)]; exact fun hl => (h.s0 hl).alloc _
  · rw [hg, if_neg (by decide)]; exact fun hl => (by obtain ⟨g, cap, e, ho⟩ := h.s1 hl; exact ⟨g, cap, e, ho.alloc _⟩)
  · exact fun _ _ => ⟨_, rfl, heap_alloc_new _ _⟩
  · rw [hg, if_neg (by decide)]; exact fun hl => (h.o0 hl).alloc _
  · rw [hg, if_neg (by decide)]; exact fun hl => (by obtain ⟨g, cap, e, ho⟩ := h.o1 hl; exact ⟨g, cap, e, ho.alloc _⟩)
  · rw [hg, hg, if_neg (by decide), if_neg (by decide)]; exact fun hl hl2 => (by obtain ⟨b, e, hb⟩ := h.ob hl hl2; exact ⟨b, e, pend_alloc hb⟩)
theorem JJ.apps {g cap : Nat} (h : JJ gb i vr xr vs xs vo xo u1 u2 u3 w0 l x70 x71 x72 x74 x75 x79 x80 w) (hl : l.getD 7 true = false) (hgr : w.grownBy w' vs.ownBlock) (hown : w'.ownsRow (gb + 1) 214 1 (.slice (some ⟨g, 0, none⟩) (i + 1) cap) (i + 1) (xs ++ [u2])) : JJ gb i vr xr vs xs vo xo u1 u2 u3 w0 (l.setIfInBounds 7 true) x70 x71 x72 x74 (.slice (some ⟨g, 0, none⟩) (i + 1) cap) x79 x80 w' := by
  have hs := h.size
  have hg := gset (l := l) (j := 7) (by omega)
  have ho := h.s0 hl
  refine ⟨by simpa using hs, fun k hk => ?_, fun k h1 h2 => ?_, pend_grown ho hgr h.ptr (by decide), h.bel.grown hgr (by have := h.lt; omega) (ownBlock_ge ho (by omega)), ?_, ?_, ?_, ?_, ?_, ?_, ?_, ?_, ?_, ?_⟩
  · rw [hg]; split; · rfl
    exact h.pure k hk
  · rw [hg, if_neg (by omega)]; exact h.tail k h1 h2
  · rw [hg, if_neg (by decide)]; exact h.t72
  · rw [hg, if_neg (by decide)]; exact fun hl => own_grown (h.r0 hl) ho (by decide) hgr
  · rw [hg, if_neg (by decide)]; exact fun hl => (by obtain ⟨g, cap, e, ho2⟩ := h.r1 hl; exact ⟨g, cap, e, own_grown ho2 ho (by decide) hgr⟩)
  · rw [hg, hg, if_neg (by decide), if_neg (by decide)]; exact fun hl hl2 => (by obtain ⟨b, e, hb⟩ := h.rb hl hl2; exact ⟨b, e, pend_grown ho hgr hb (by decide)⟩)
  · rw [hg, if_pos rfl]; exact fun hl => (by cases hl)
  · exact fun _ => ⟨g, cap, rfl, hown⟩
  · rw [hg, hg, if_pos rfl]; exact fun _ hl => (by cases hl)
  · rw [hg, if_neg (by decide)]; exact fun hl => own_grown (h.o0 hl) ho (by decide) hgr
  · rw [hg, if_neg (by decide)]; exact fun hl => (by obtain ⟨g, cap, e, ho2⟩ := h.o1 hl; exact ⟨g, cap, e, own_grown ho2 ho (by decide) hgr⟩)
  · rw [hg, hg, if_neg (by decide), if_neg (by decide)]; exact fun hl hl2 => (by obtain ⟨b, e, hb⟩ := h.ob hl hl2; exact ⟨b, e, pend_grown ho hgr hb (by decide)⟩)
theorem JJ.buildo (h : JJ gb i vr xr vs xs vo xo u1 u2 u3 w0 l x70 x71 x72 x74 x75 x79 x80 w) : JJ gb i vr xr vs xs vo xo u1 u2 u3 w0 (l.setIfInBounds 11 true) x70 x71 x72 x74 x75 (.slice (some ⟨w.heap.size, 0, none⟩) 1 1) x80 (w.alloc (.cells #[u3] 2)) := by
  have hs := h.size
  have hg := gset (l := l) (j := 11) (by omega)
  refine ⟨by simpa using hs, fun k hk => ?_, fun k h1 h2 => ?_, pend_alloc h.ptr, h.bel.alloc (by have := h.lt; omega) _, ?_, ?_, ?_, ?_, ?_, ?_, ?_, ?_, ?_, ?_⟩
  · rw [hg]; split; · rfl
    exact h.pure k hk
  · rw [hg, if_neg (by omega)]; exact h.tail k h1 h2
  · rw [hg, if_neg (by decide)]; exact h.t72
  · rw [hg, if_neg (by decide)]; exact fun hl => (h.r0 hl).alloc _
  · rw [hg, if_neg (by decide)]; exact fun hl => (by obtain ⟨g, cap, e, ho⟩ := h.r1 hl; exact ⟨g, cap, e, ho.alloc _⟩)
  · rw [hg, hg, if_neg (by decide), if_neg (by decide)]; exact fun hl hl2 => (by obtain ⟨b, e, hb⟩ := h.rb hl hl2; exact ⟨b, e, pend_alloc hb⟩)
  · rw [hg, if_neg (by decide)]; exact fun hl => (h.s0 hl).alloc _
  · rw [hg, if_neg (by decide)]; exact fun hl => (by obtain ⟨g, cap, e, ho⟩ := h.s1 hl; exact ⟨g, cap, e, ho.alloc _⟩)
  · rw [hg, hg, if_neg (by decide), if_neg (by decide)]; exact fun hl hl2 => (by obtain ⟨b, e, hb⟩ := h.sb hl hl2; exact ⟨b, e, pend_alloc hb⟩)
  · rw [hg, if_neg (by decide)]; exact fun hl => (h.o0 hl).alloc _
  · rw [hg, if_neg (by decide)]; exact fun hl => (by obtain ⟨g, cap, e, ho⟩ := h.o1 hl; exact ⟨g, cap, e, ho.alloc _⟩)
  · exact fun _ _ => ⟨_, rfl, heap_alloc_new _ _⟩
theorem JJ.appo {g cap : Nat} (h : JJ gb i vr xr vs xs vo xo u1 u2 u3 w0 l x70 x71 x72 x74 x75 x79 x80 w) (hl : l.getD 12 true = false) (hgr : w.grownBy w' vo.ownBlock) (hown : w'.ownsRow (gb + 1) 2 1 (.slice (some ⟨g, 0, none⟩) (i + 1) cap) (i + 1) (xo ++ [u3])) : JJ gb i vr xr vs xs vo xo u1 u2 u3 w0 (l.setIfInBounds 12 true) x70 x71 x72 x74 x75 x79 (.slice (some ⟨g, 0, none⟩) (i + 1) cap) w' := by
  have hs := h.size
  have hg := gset (l := l) (j := 12) (by omega)
  have ho := h.o0 hl
  refine ⟨by simpa using hs, fun k hk => ?_, fun k h1 h2 => ?_, pend_grown ho hgr h.ptr (by decide), h.bel.grown hgr (by have := h.lt; omega) (ownBlock_ge ho (by omega)), ?_, ?_, ?_, ?_, ?_, ?_, ?_, ?_, ?_, ?_⟩
  · rw [hg]; split; · rfl
    exact h.pure k hk
  · rw [hg, if_neg (by omega)]; exact h.tail k h1 h2
  · rw [hg, if_neg (by decide)]; exact h.t72
  · rw [hg, if_neg (by decide)]; exact fun hl => own_grown (h.r0 hl) ho (by decide) hgr
  · rw [hg, if_neg (by decide)]; exact fun hl => (by obtain ⟨g, cap, e, ho2⟩ := h.r1 hl; exact ⟨g, cap, e, own_grown ho2 ho (by decide) hgr⟩)
  · rw [hg, hg, if_neg (by decide), if_neg (by decide)]; exact fun hl hl2 => (by obtain ⟨b, e, hb⟩ := h.rb hl hl2; exact ⟨b, e, pend_grown ho hgr hb (by decide)⟩)
  · rw [hg, if_neg (by decide)]; exact fun hl => own_grown (h.s0 hl) ho (by decide) hgr
  · rw [hg, if_neg (by decide)]; exact fun hl => (by obtain ⟨g, cap, e, ho2⟩ := h.s1 hl; exact ⟨g, cap, e, own_grown ho2 ho (by decide) hgr⟩)
  · rw [hg, hg, if_neg (by decide), if_neg (by decide)]; exact fun hl hl2 => (by obtain ⟨b, e, hb⟩ := h.sb hl hl2; exact ⟨b, e, pend_grown ho hgr hb (by decide)⟩)
  · rw [hg, if_pos rfl]; exact fun hl => (by cases hl)
  · exact fun _ => ⟨g, cap, rfl, hown⟩
  · rw [hg, hg, if_pos rfl]; exact fun _ hl => (by cases hl)
end
theorem ready_dep {md : Region.Mode} {ops : Array Oper} {l : Array Bool} {i d : Nat} {o : Oper} (hr : i ∈ Region.ready md ops l) (ho : ops[i]? = some o) (hd : (o.after.any fun e => Region.binds md e && e.on == d) = true) (hs : d < l.size) : l.getD d true = true := by
  obtain ⟨_, o', ho', hall⟩ := mem_ready.1 hr
  rw [ho] at ho'
  simp only [Option.some.injEq] at ho'
  subst ho'
  obtain ⟨e, he, h4⟩ := Array.any_eq_true'.1 hd
  simp only [Bool.and_eq_true, beq_iff_eq] at h4
  have h5 := hall e he h4.1
  rw [h4.2, Array.getD_eq_getD_getElem?, Array.getElem?_eq_getElem hs] at h5
  rw [Array.getD_eq_getD_getElem?, Array.getElem?_eq_getElem hs]
  exact h5
theorem ev {a : Act} {k : Nat} {v : Value} (h : a.tmps[k]? = some v) : a.eval (.tmp k) = v := by
  simp [Act.eval, Array.getD_eq_getD_getElem?, h]
theorem wpOp_run {P : Program} {ops : Array Oper} {Q : Exit → Act → World → Prop} {i : Nat} {o : Oper} {a : Act} {w w' : World} {K : Act → World → Prop} {v : Value} (ho : ops[i]? = some o) (hg : o.guard = none) (hr : (execOp a.eval o).run P w = .ok (.value v) w') (hK : K (a.put o.dst v) w') : wpOp P ops Q i K a w := by
  unfold wpOp
  simp only [ho]
  rw [if_pos (by simp [Region.wanted, hg])]
  left
  unfold Oper.wp
  rw [hr]
  exact hK
theorem three_rule {ops : Array Oper} {Q : Exit → Act → World → Prop} {gb i : Nat} {vr : Value} {xr : List Value} {vs : Value} {xs : List Value} {vo : Value} {xo : List Value} {m rv qv : Int} {w0 : World} {L : Array Bool} {x70 x71 x72 x74 x75 x79 x80 : Value} {a1 : Act} {W : World} (hi : i ≤ 100)
    (h2 : ∃ o, ops[2]? = some o ∧ o.guard = none ∧ o.dst = some 70 ∧ o.op = .buildSlice 58 1 #[(0, .tmp 69)]) (h3 : ∃ o, ops[3]? = some o ∧ o.guard = none ∧ o.dst = some 71 ∧ o.op = .call { callee := .builtin .append, args := #[.tmp 68, .tmp 70], argTypes := #[58, 58] } ∧ (o.after.any fun e => Region.binds .any e && e.on == 2) = true) (h4 : ∃ o, ops[4]? = some o ∧ o.guard = none ∧ o.dst = some 72 ∧ o.op = .load 213 (.tmp 12)) (h6 : ∃ o, ops[6]? = some o ∧ o.guard = none ∧ o.dst = some 74 ∧ o.op = .buildSlice 213 1 #[(0, .tmp 73)]) (h7 : ∃ o, ops[7]? = some o ∧ o.guard = none ∧ o.dst = some 75 ∧ o.op = .call { callee := .builtin .append, args := #[.tmp 72, .tmp 74], argTypes := #[213, 213] } ∧ (o.after.any fun e => Region.binds .any e && e.on == 4) = true ∧ (o.after.any fun e => Region.binds .any e && e.on == 6) = true) (h11 : ∃ o, ops[11]? = some o ∧ o.guard = none ∧ o.dst = some 79 ∧ o.op = .buildSlice 36 1 #[(0, .tmp 78)]) (h12 : ∃ o, ops[12]? = some o ∧ o.guard = none ∧ o.dst = some 80 ∧ o.op = .call { callee := .builtin .append, args := #[.tmp 76, .tmp 79], argTypes := #[36, 36] } ∧ (o.after.any fun e => Region.binds .any e && e.on == 11) = true)
    (e68 : a1.tmps[68]? = some vr) (e69 : a1.tmps[69]? = some (.int .i64 m)) (e12 : a1.tmps[12]? = some (.pointer (some ⟨gb, 0, none⟩))) (e73 : a1.tmps[73]? = some (.int .u64 rv)) (e76 : a1.tmps[76]? = some vo) (e78 : a1.tmps[78]? = some (.int .i64 qv))
    (hord : ordB .any ops 13 = true) (htail : tailB .any ops 13 = true) (hhead : headB .any ops 13 L = true) (hm : undone 13 L = 7)
    (hL : JJ gb i vr xr vs xs vo xo (.int .i64 m) (.int .u64 rv) (.int .i64 qv) w0 L x70 x71 x72 x74 x75 x79 x80 W) (hA : AA a1 x70 x71 x72 x74 x75 x79 x80 a1)
    (hend : ∀ x70 x71 x72 x74 x75 x79 x80 a w l, AA a1 x70 x71 x72 x74 x75 x79 x80 a → JJ gb i vr xr vs xs vo xo (.int .i64 m) (.int .u64 rv) (.int .i64 qv) w0 l x70 x71 x72 x74 x75 x79 x80 w → undone 13 l = 0 → wpAny Try.prog .any ops Q 3 l a w) : wpAny Try.prog .any ops Q 10 L a1 W := by
  refine wpAny_rule2 13 3 (fun l a w => ∃ x70 x71 x72 x74 x75 x79 x80, AA a1 x70 x71 x72 x74 x75 x79 x80 a ∧ JJ gb i vr xr vs xs vo xo (.int .i64 m) (.int .u64 rv) (.int .i64 qv) w0 l x70 x71 x72 x74 x75 x79 x80 w) ?_ htail ?_ ?_ 7 L a1 W hm (headB_inv hhead) ⟨_, _, _, _, _, _, _, hA, hL⟩
  · rintro l a w j ⟨x70, x71, x72, x74, x75, x79, x80, hA, hJ⟩ hj hr
    have hl := (mem_ready.1 hr).1
    have hp : ¬ j ∈ [0, 1, 5, 8, 9, 10] := fun hm => by rw [hJ.pure j hm] at hl; cases hl
    simp only [List.mem_cons, List.not_mem_nil, or_false, not_or] at hp
    have hj7 : j = 2 ∨ j = 3 ∨ j = 4 ∨ j = 6 ∨ j = 7 ∨ j = 11 ∨ j = 12 := by omega
    have hsz := hJ.size
    rcases hj7 with rfl | rfl | rfl | rfl | rfl | rfl | rfl
    · obtain ⟨o, ho, hg, hd, hop⟩ := h2
      have e := (hA.far 69 (by decide) (by decide) (by decide) (by decide) (by decide) (by decide) (by decide)).trans e69
      refine wpOp_run (w' := w.alloc (.cells #[.int .i64 m] 3)) (v := .slice (some ⟨w.heap.size, 0, none⟩) 1 1) ho hg ?_ ⟨_, _, _, _, _, _, _, hd ▸ hA.put70, hJ.buildr⟩
      unfold execOp
      rw [hop]
      simp [go_sem, e]
    · obtain ⟨o, ho, hg, hd, hop, hb2⟩ := h3
      have hl2 := ready_dep hr ho hb2 (by omega)
      obtain ⟨b, rfl, hbk⟩ := hJ.rb hl2 hl
      obtain ⟨inf, hi1, hz0, hzs, hzb⟩ := info_parts infoIntD
      obtain ⟨g, cap, w', hrun, hown, hgrow, _, _⟩ := run_append_lies (P := Try.prog) w 58 o.type (gb + 1) 3 inf (.int .i64 0) 1 8 Try.underlying58 hi1 hz0 hzs hzb (by rfl) (by decide) vr i xr (hJ.r0 hl) ⟨b, 0, none⟩ 1 1 [.int .i64 m] rfl (World.news_of_block hbk) (by simp [Value.oneCell']) (by decide) (by unfold maxLen; omega) (by omega) (Nat.succ_le_of_lt hJ.lt) _ rfl
      have ea := ev ((hA.far 68 (by decide) (by decide) (by decide) (by decide) (by decide) (by decide) (by decide)).trans e68)
      have eb := ev hA.s70
      refine wpOp_run (w' := w') (v := .slice (some ⟨g, 0, none⟩) (i + 1) cap) ho hg ?_ ⟨_, _, _, _, _, _, _, hd ▸ hA.put71, hJ.appr hl hgrow hown⟩
      unfold execOp
      simp only [hop, resolve, invoke, builtin, Sem.run_bind, Sem.run_pure, Result.andThen_ok, List.map_toArray, List.map_cons, List.map_nil, ea, eb, hrun]
    · obtain ⟨o, ho, hg, hd, hop⟩ := h4
      have e := (hA.far 12 (by decide) (by decide) (by decide) (by decide) (by decide) (by decide) (by decide)).trans e12
      have hc : w.cell? ⟨gb, 0, none⟩ = some vs := by have hp := hJ.ptr; simp [World.cell?, hp]
      refine wpOp_run (w' := w) (v := vs) ho hg ?_ ⟨_, _, _, _, _, _, _, hd ▸ hA.put72, hJ.load⟩
      unfold execOp
      rw [hop]
      simp [go_sem, e, hc]
    · obtain ⟨o, ho, hg, hd, hop⟩ := h6
      have e := (hA.far 73 (by decide) (by decide) (by decide) (by decide) (by decide) (by decide) (by decide)).trans e73
      refine wpOp_run (w' := w.alloc (.cells #[.int .u64 rv] 214)) (v := .slice (some ⟨w.heap.size, 0, none⟩) 1 1) ho hg ?_ ⟨_, _, _, _, _, _, _, hd ▸ hA.put74, hJ.builds⟩
      unfold execOp
      rw [hop]
      simp [go_sem, e]
    · obtain ⟨o, ho, hg, hd, hop, hb4, hb6⟩ := h7
      have hl4 := ready_dep hr ho hb4 (by omega)
      have hl2 := ready_dep hr ho hb6 (by omega)
      obtain rfl := hJ.t72 hl4
      obtain ⟨b, rfl, hbk⟩ := hJ.sb hl2 hl
      obtain ⟨inf, hi1, hz0, hzs, hzb⟩ := info_parts infoU64W
      obtain ⟨g, cap, w', hrun, hown, hgrow, _, _⟩ := run_append_lies (P := Try.prog) w 213 o.type (gb + 1) 214 inf (.int .u64 0) 1 8 Try.underlying213 hi1 hz0 hzs hzb (by rfl) (by decide) x72 i xs (hJ.s0 hl) ⟨b, 0, none⟩ 1 1 [.int .u64 rv] rfl (World.news_of_block hbk) (by simp [Value.oneCell']) (by decide) (by unfold maxLen; omega) (by omega) (Nat.succ_le_of_lt hJ.lt) _ rfl
      have ea := ev hA.s72
      have eb := ev hA.s74
      refine wpOp_run (w' := w') (v := .slice (some ⟨g, 0, none⟩) (i + 1) cap) ho hg ?_ ⟨_, _, _, _, _, _, _, hd ▸ hA.put75, hJ.apps hl hgrow hown⟩
      unfold execOp
      simp only [hop, resolve, invoke, builtin, Sem.run_bind, Sem.run_pure, Result.andThen_ok, List.map_toArray, List.map_cons, List.map_nil, ea, eb, hrun]
    · obtain ⟨o, ho, hg, hd, hop⟩ := h11
      have e := (hA.far 78 (by decide) (by decide) (by decide) (by decide) (by decide) (by decide) (by decide)).trans e78
      refine wpOp_run (w' := w.alloc (.cells #[.int .i64 qv] 2)) (v := .slice (some ⟨w.heap.size, 0, none⟩) 1 1) ho hg ?_ ⟨_, _, _, _, _, _, _, hd ▸ hA.put79, hJ.buildo⟩
      unfold execOp
      rw [hop]
      simp [go_sem, e]
    · obtain ⟨o, ho, hg, hd, hop, hb11⟩ := h12
      have hl2 := ready_dep hr ho hb11 (by omega)
      obtain ⟨b, rfl, hbk⟩ := hJ.ob hl2 hl
      obtain ⟨inf, hi1, hz0, hzs, hzb⟩ := info_parts infoI64
      obtain ⟨g, cap, w', hrun, hown, hgrow, _, _⟩ := run_append_lies (P := Try.prog) w 36 o.type (gb + 1) 2 inf (.int .i64 0) 1 8 Try.underlying36 hi1 hz0 hzs hzb (by rfl) (by decide) vo i xo (hJ.o0 hl) ⟨b, 0, none⟩ 1 1 [.int .i64 qv] rfl (World.news_of_block hbk) (by simp [Value.oneCell']) (by decide) (by unfold maxLen; omega) (by omega) (Nat.succ_le_of_lt hJ.lt) _ rfl
      have ea := ev ((hA.far 76 (by decide) (by decide) (by decide) (by decide) (by decide) (by decide) (by decide)).trans e76)
      have eb := ev hA.s79
      refine wpOp_run (w' := w') (v := .slice (some ⟨g, 0, none⟩) (i + 1) cap) ho hg ?_ ⟨_, _, _, _, _, _, _, hd ▸ hA.put80, hJ.appo hl hgrow hown⟩
      unfold execOp
      simp only [hop, resolve, invoke, builtin, Sem.run_bind, Sem.run_pure, Result.andThen_ok, List.map_toArray, List.map_cons, List.map_nil, ea, eb, hrun]
  · rintro l a w ⟨x70, x71, x72, x74, x75, x79, x80, hA, hJ⟩ h
    exact ready_some hord (by have := hJ.size; omega) h
  · rintro l a w ⟨x70, x71, x72, x74, x75, x79, x80, hA, hJ⟩ h
    exact hend _ _ _ _ _ _ _ _ _ _ hA hJ h
end Go.Proofs.Ytfjoakhcgpckgaa
