/- Contract: the wheel's Advance. -/
import Derived.Test.YtjoejdpoehpkiaaWheelTo
import Derived.Test.YtjoejdpoehpkiaaWheelSort
import Derived.Test.YtjoejdpoehpkiaaWheelAdvR
import Derived.Test.YtjoejdpoehpkiaaWheelCan
namespace Go.Proofs.Ytjoejdpoehpkiaa
open Go.ChangeShapes Go.WideShapes Go.ChangeAt Go.RowKit
set_option linter.unusedVariables false
open Wh
theorem MapT.strike {T : List Tm} {f : Int → Int} {h : Int → Bool} {c : Nat} (H : MapT T f h c) (hc : Came T) {x : Tm} (hx : x ∈ T) : MapT (T.filter fun t => decide (t ∉ [x])) (delI f x.id) (delB h x.id) (c - 1) := by
  have hun : ∀ t, t ∈ T → t.id = x.id → t = x := fun t ht e => hc.uniq ht hx e
  refine ⟨fun id => ?_, fun u hu => ?_, ?_⟩
  · unfold delB
    rw [Bool.and_eq_true, H.mem]
    simp only [Bool.not_eq_true', decide_eq_false_iff_not, List.mem_filter, decide_eq_true_eq, List.mem_singleton]
    constructor
    · rintro ⟨⟨t, h1, h2⟩, h3⟩
      exact ⟨t, ⟨h1, fun e => h3 (by rw [← h2, e])⟩, h2⟩
    · rintro ⟨t, ⟨h1, h2⟩, h3⟩
      exact ⟨⟨t, h1, h3⟩, fun e => h2 (hun t h1 (by rw [h3, e]))⟩
  · rw [List.mem_filter] at hu
    unfold delI
    rw [if_neg (fun e => by
      have := hun u hu.1 e
      simp [this] at hu)]
    exact H.at' u hu.1
  · rw [H.len]
    obtain ⟨b, hb⟩ := List.getElem?_of_mem hx
    rw [← filter_take_drop hc.nodup hb, List.length_append, List.length_take, List.length_drop]
    have := (List.getElem?_eq_some_iff.1 hb).1
    omega
/-- rows of unlike types do not share a block -/
theorem span_own_ne {w : World} {base n size : Nat} {e : TypeId} {v : Value} {xs : List Value} (h : spanRow w base e size v n xs) {base' n' size' : Nat} {e' : TypeId} {v' : Value} {xs' : List Value} (h' : w.ownsRow base' e' size' v' n' xs') (he : e ≠ e') : ∀ k, v.ownBlock = some k → v'.ownBlock ≠ some k := fun k hk hk' => by
  rcases h with ⟨rfl, _⟩ | ⟨g, off, cap, cur, rfl, h2, h3, _⟩
  · simp [Value.ownBlock] at hk
  · obtain rfl : g = k := by simpa [Value.ownBlock] using hk
    rcases h'.2 with ⟨rfl, _⟩ | ⟨g', cap', cur', rfl, _, h3', _⟩
    · simp [Value.ownBlock] at hk'
    · obtain rfl : g' = g := by simpa [Value.ownBlock] using hk'
      rw [h3] at h3'
      simp only [Option.some.injEq, Obj.cells.injEq] at h3'
      exact he h3'.2.1
theorem BoxM.ne_span {gm q c : Nat} {f : Int → Int} {h : Int → Bool} {w : World} (hM : BoxM gm q f h c w) {base n size : Nat} {e : TypeId} {v : Value} {xs : List Value} (k : spanRow w base e size v n xs) : v.ownBlock ≠ some gm := fun hk => by
  rcases k with ⟨rfl, _⟩ | ⟨g, off, cap, cur, rfl, h2, h3, _⟩
  · simp [Value.ownBlock] at hk
  · obtain rfl : g = gm := by simpa [Value.ownBlock] using hk
    obtain ⟨D, ⟨es, clock, e1, _⟩, _⟩ := hM
    rw [e1] at h3
    simp at h3
/-- the wheel while its time runs on -/
structure Av (F : Nat → Prop) (gw gm q : Nat) (born e now0 : Int) (T out left : List Tm) (now : Int) (V : Nat → Value) (S : Nat → List Tm) (vo : Value) (w wr : World) : Prop where
  ww : WW (fun x => F x ∨ w.heap.size ≤ x) gw gm now born V S wr
  map : ∃ f h c, BoxM gm q f h c wr ∧ MapT left f h c
  inv : Inv (pl now) left S
  told : Wh.Told T out left
  le : ∀ t, t ∈ out → t.at' ≤ e
  own : spanRow wr w.heap.size 38 2 vo out.length (fires out)
  kept : Kept F w wr
  nows : now0 ≤ now ∧ now ≤ e
  ge : ∀ t, t ∈ left → now ≤ t.at'
section
variable {F : Nat → Prop} {gw gm q : Nat} {born e now0 : Int} {T out left : List Tm} {now : Int} {V : Nat → Value} {S : Nat → List Tm} {vo : Value} {w wr w2 : World}
theorem Av.below (h : Av F gw gm q born e now0 T out left now V S vo w wr) (hb : Below wr.heap.size wr w2) : Av F gw gm q born e now0 T out left now V S vo w w2 := by
  obtain ⟨f, hh, c, h1, h2⟩ := h.map
  exact ⟨h.ww.below hb, ⟨f, hh, c, h1.below hb, h2⟩, h.inv, h.told, h.le, h.own.below hb, h.kept.trans (Kept.below (F := fun _ => False) hb) (fun _ hx => hx.elim), h.nows, h.ge⟩
theorem Av.sub (h : Av F gw gm q born e now0 T out left now V S vo w wr) : left.Sublist T := by rw [h.told.left']; exact List.filter_sublist
/-- it is later -/
theorem Av.to {now' : Int} {V' : Nat → Value} {S' : Nat → List Tm} (h : Av F gw gm q born e now0 T out left now V S vo w wr) (hw : WW (fun k => SlAll gw V k ∨ wr.heap.size ≤ k) gw gm now' born V' S' w2) (hi : Inv (pl now') left S') (hk : Kept (SlAll gw V) wr w2) (h1 : now ≤ now') (h2 : now' ≤ e) (h3 : ∀ t, t ∈ left → now' ≤ t.at') : Av F gw gm q born e now0 T out left now' V' S' vo w w2 := by
  obtain ⟨f, hh, c, h4, h5⟩ := h.map
  have hsub : ∀ k, SlAll gw V k → F k ∨ w.heap.size ≤ k := fun k hs => by
    rcases hs with rfl | ⟨i, hi, hk⟩
    · exact h.ww.fw
    · exact h.ww.rowF i k hi hk
  refine ⟨hw.wide fun k hs => ?_, ⟨f, hh, c, h4.kept (hk.block gm h4.lt (fun hs => ?_)), h5⟩, hi, h.told, h.le, h.own.block fun k hk' => hk.block k (h.own.lt k hk').2 (fun hs => ?_), h.kept.trans hk hsub, by have := h.nows; omega, h3⟩
  · rcases hs with hs | hs
    · exact hsub k hs
    · exact .inr (Nat.le_trans h.kept.size hs)
  · rcases hs with hs | ⟨i, hi, hk'⟩
    · exact h4.ne_row h.ww.var hs.symm
    · exact h4.ne_own (h.ww.row i hi) hk'
  · rcases hs with hs | ⟨i, hi, hk''⟩
    · exact span_ne h.own h.ww.var (by decide) (by rw [hk', hs])
    · exact span_own_ne h.own (h.ww.row i hi) (by decide) k hk' hk''
end
/-- the timers of a slot told: i are in the row of what is told, j are struck out of the map -/
structure AvI (F : Nat → Prop) (gw gm q : Nat) (born : Int) (out left : List Tm) (now : Int) (V : Nat → Value) (S : Nat → List Tm) (w : World) (L : List Tm) (i j : Nat) (vo : Value) (wr : World) : Prop where
  ww : WW (fun x => F x ∨ w.heap.size ≤ x) gw gm now born V S wr
  map : ∃ f h c, BoxM gm q f h c wr ∧ MapT (left.filter fun t => decide (t ∉ L.take j)) f h c
  own : spanRow wr w.heap.size 38 2 vo (out ++ L.take i).length (fires (out ++ L.take i))
  kept : Kept F w wr
section
variable {F : Nat → Prop} {gw gm q : Nat} {born : Int} {out left L : List Tm} {now : Int} {V : Nat → Value} {S : Nat → List Tm} {vo : Value} {w wr w2 : World} {i j : Nat}
theorem AvI.below (h : AvI F gw gm q born out left now V S w L i j vo wr) (hb : Below wr.heap.size wr w2) : AvI F gw gm q born out left now V S w L i j vo w2 := by
  obtain ⟨f, hh, c, h1, h2⟩ := h.map
  exact ⟨h.ww.below hb, ⟨f, hh, c, h1.below hb, h2⟩, h.own.below hb, h.kept.trans (Kept.below (F := fun _ => False) hb) (fun _ hx => hx.elim)⟩
theorem AvI.push {x : Tm} {g off cap : Nat} (h : AvI F gw gm q born out left now V S w L i j vo wr) (hx : L[i]? = some x) (hs : spanRow w2 w.heap.size 38 2 (.slice (some ⟨g, off, none⟩) ((out ++ L.take i).length + 1) cap) ((out ++ L.take i).length + 1) (fires (out ++ L.take i) ++ [.int .i64 x.at', .int .i64 x.id])) (hg : wr.grownBy w2 vo.ownBlock) :
    AvI F gw gm q born out left now V S w L (i + 1) j (.slice (some ⟨g, off, none⟩) (out ++ L.take (i + 1)).length cap) w2 := by
  obtain ⟨f, hh, c, h1, h2⟩ := h.map
  have ht : out ++ L.take (i + 1) = (out ++ L.take i) ++ [x] := by rw [List.take_add_one, hx, List.append_assoc]; rfl
  refine ⟨⟨rowIs_grown h.ww.var hg (fun e => span_ne h.own h.ww.var (by decide) e.symm), h.ww.fw, fun n hn => own_block (h.ww.row n hn) fun k hk => hg.block k ((h.ww.row n hn).lt k hk).2 (fun e => span_own_ne h.own (h.ww.row n hn) (by decide) k e.symm hk), h.ww.rowF, h.ww.inj⟩, ⟨f, hh, c, h1.kept (hg.block gm h1.lt (fun e => h1.ne_span h.own e.symm)), h2⟩, ?_, h.kept.grown hg (fun k hk => .inr (h.own.lt k hk).1)⟩
  rw [ht, List.length_append, fires_push]
  exact hs
theorem AvI.del {x : Tm} {f : Int → Int} {hh : Int → Bool} {c : Nat} (h : AvI F gw gm q born out left now V S w L i j vo wr) (hM : BoxM gm q f hh c wr) (hT : MapT (left.filter fun t => decide (t ∉ L.take j)) f hh c) (hx : L[j]? = some x) (hc : Came left) (hxl : x ∈ left) (hn : L.Nodup) (hF : F gm) (hM2 : BoxM gm q (delI f x.id) (delB hh x.id) (if hh x.id then c - 1 else c) w2) (ht : wr.mapTurned w2 gm) :
    AvI F gw gm q born out left now V S w L i (j + 1) vo w2 := by
  have hg := ht.grown
  have hxj : x ∉ L.take j := fun hm => by
    obtain ⟨p, hp⟩ := List.getElem?_of_mem hm
    rw [List.getElem?_take] at hp
    split at hp
    · obtain ⟨h1, h2⟩ := List.getElem?_eq_some_iff.1 hp
      obtain ⟨h3, h4⟩ := List.getElem?_eq_some_iff.1 hx
      exact List.pairwise_iff_getElem.1 hn p j h1 h3 (by omega) (h2.trans h4.symm)
    · cases hp
  have hxin : x ∈ left.filter fun t => decide (t ∉ L.take j) := List.mem_filter.2 ⟨hxl, by simpa using hxj⟩
  have hst := hT.strike (hc.sub List.filter_sublist) hxin
  have hhx : hh x.id = true := (hT.mem x.id).2 ⟨x, hxin, rfl⟩
  rw [hhx] at hM2
  refine ⟨h.ww.mapped hM hg, ⟨_, _, _, hM2, ?_⟩, h.own.block fun k hk => hg.block k (h.own.lt k hk).2 (fun e => hM.ne_span h.own (by rw [hk]; exact congrArg _ (Option.some.inj e))), h.kept.grown hg (fun k hk => .inl (by cases hk; exact hF))⟩
  have e : (left.filter fun t => decide (t ∉ L.take (j + 1))) = (left.filter fun t => decide (t ∉ L.take j)).filter fun t => decide (t ∉ [x]) := by
    rw [List.filter_filter]
    congr 1
    funext t
    rw [List.take_add_one, hx]
    simp [List.mem_append, not_or, Bool.and_comm]
  rw [e]
  exact hst
end
/-- what a timer that is left may have for its time -/
theorem Av.ahead {F : Nat → Prop} {gw gm q k : Nat} {born e now0 : Int} {T out left : List Tm} {now : Int} {V : Nat → Value} {S S0 : Nat → List Tm} {f0 : Int → Int} {h0 : Int → Bool} {c0 : Nat} {vo : Value} {w wr : World} (h : Av F gw gm q born e now0 T out left now V S vo w wr) (hI : In k now0 born T S0 f0 h0 c0 q) {z : Int} (h1 : now ≤ z) (h2 : ∀ t, t ∈ left → z ≤ t.at') : ∀ t, t ∈ left → Ahead now z t.at' := fun t ht => by
  have h3 := (hI.far t (h.sub.subset ht)).2
  have h4 := h.nows
  have h5 := hI.nows
  exact ⟨by omega, h1, h2 t ht, by omega⟩
/-- a slot's row has turned in its place -/
theorem WW.turned {F : Nat → Prop} {gw gm : Nat} {now born : Int} {V : Nat → Value} {S : Nat → List Tm} {w w' : World} (h : WW F gw gm now born V S w) {c g n cap : Nat} {f : Nat → Value} {L : List Tm} (hc : c < 320) (hV : V c = .slice (some ⟨g, 0, none⟩) n cap) (hn : (S c).length = n) (hk : Kept (fun k => k = g) w w') (hr : w'.rowIs g 51 (cap * 3) f) (hL : L.length = n) (hx : ∀ (p : Nat) (t : Tm), L[p]? = some t → TmAt f p t) : WW F gw gm now born V (upd S c L) w' := by
  have hrow := h.row c hc
  have hne : ∀ k, k ≠ g → k < w.heap.size → w'.heap[k]? = w.heap[k]? := fun k h1 h2 => hk.block k h2 h1
  refine ⟨h.var.of_block (hne gw (fun e => own_neR hrow h.var (by decide) (by rw [hV]; exact congrArg some e.symm)) h.var.lt), h.fw, fun i hi => ?_, h.rowF, h.inj⟩
  unfold upd
  by_cases e : i = c
  · subst e
    rw [if_pos rfl, hV, hL]
    rw [hV, hn] at hrow
    obtain ⟨_, _, h1, h2, h3, _⟩ := own_toRow hrow
    exact own_ofRow hr h1 h2 h3 (by rw [tms_length, hL]) (tms_of hx)
  · rw [if_neg e]
    exact own_block (h.row i hi) fun k hk' => hne k (fun e2 => e (h.inj i c k hi hc hk' (by rw [hV, e2]; rfl))) ((h.row i hi).lt k hk').2
theorem Av.turned {F : Nat → Prop} {gw gm q : Nat} {born e now0 : Int} {T out left : List Tm} {now : Int} {V : Nat → Value} {S : Nat → List Tm} {vo : Value} {w wr w' : World} (h : Av F gw gm q born e now0 T out left now V S vo w wr) {c g n cap : Nat} {f : Nat → Value} {L : List Tm} (hc : c < 320) (hV : V c = .slice (some ⟨g, 0, none⟩) n cap) (hn : (S c).length = n) (hk : Kept (fun k => k = g) wr w') (hr : w'.rowIs g 51 (cap * 3) f) (hL : L.length = n) (hx : ∀ (p : Nat) (t : Tm), L[p]? = some t → TmAt f p t) : AvI F gw gm q born out left now V (upd S c L) w L 0 0 vo w' := by
  obtain ⟨f1, hh, c1, h1, h2⟩ := h.map
  have hrow := h.ww.row c hc
  refine ⟨h.ww.turned hc hV hn hk hr hL hx, ⟨f1, hh, c1, h1.kept (hk.block gm h1.lt (fun e => h1.ne_own hrow (by rw [hV]; exact congrArg some e.symm))), ?_⟩, ?_, h.kept.trans hk (fun k hk => by rw [hk]; exact h.ww.rowF c g hc (by rw [hV]; rfl))⟩
  · rw [show (left.filter fun t => decide (t ∉ L.take 0)) = left from List.filter_eq_self.2 (by simp)]
    exact h2
  · rw [show out ++ L.take 0 = out from by simp]
    exact h.own.block fun k hk' => hk.block k (h.own.lt k hk').2 (fun e => span_own_ne h.own hrow (by decide) k hk' (by rw [hV, e]; rfl))
/-- the slot is told -/
theorem AvI.done {F : Nat → Prop} {gw gm q : Nat} {born e now0 : Int} {T out left : List Tm} {m : Int} {V : Nat → Value} {S : Nat → List Tm} {vo vo0 : Value} {w w0 wr : World} {L : List Tm} {n : Nat} (h : AvI F gw gm q born out left m V (upd S (pl m m) L) w L n n vo wr) (h0 : Av F gw gm q born e now0 T out left m V S vo0 w w0) (hp : 0 ≤ m) (hn : L.length = n) (hL : L.Pairwise fun a b => a.born < b.born) (hm : ∀ t, t ∈ L ↔ t ∈ left ∧ t.at' = m) (hl : ∀ t, t ∈ left → m ≤ t.at') (hme : m ≤ e) :
    Av F gw gm q born e now0 T (out ++ L) (left.filter fun t => t.at' != m) m (updV V (pl m m) (.slice none 0 0)) (upd S (pl m m) []) vo w (wr.setCell ⟨gw, 3 + pl m m, none⟩ (.slice none 0 0)) := by
  obtain ⟨f1, hh, c1, h1, h2⟩ := h.map
  have hst := h.ww.stored (c := pl m m) (pl_lt _ _) (v' := .slice none 0 0) (l' := []) (B := w.heap.size) h.kept.size (fun k _ _ => rfl) (Nat.le_refl _) (World.ownsRow_nil _ _ _ _) (fun g e => by simp [Value.ownBlock] at e)
  have hu : upd (upd S (pl m m) L) (pl m m) [] = upd S (pl m m) [] := by
    funext k
    unfold upd
    split <;> rfl
  rw [hu] at hst
  have hn' : L.take n = L := by rw [← hn, List.take_length]
  have ho := h.own
  rw [hn'] at ho h2
  have hv := h.ww.var
  refine ⟨hst.wide fun k hk => ?_, ⟨f1, hh, c1, h1.kept (Below.heap_setCell wr _ _ gm (fun e => h1.ne_row hv e.symm)), ?_⟩, h0.inv.told (fun t ht he => pl_now hp (hl t ht) he), h0.told.slot hl hL hm, fun t ht => ?_, ho.block fun k hk => Below.heap_setCell wr _ _ k (fun e => span_ne ho hv (by decide) (by rw [hk, e])), h.kept.setCell (p := ⟨gw, 3 + pl m m, none⟩) (h.ww.fw) _, h0.nows, fun t ht => h0.ge t (List.mem_filter.1 ht).1⟩
  · rcases hk with hk | hk
    · exact hk
    · exact .inr hk
  · rw [show (left.filter fun t => t.at' != m) = left.filter fun t => decide (t ∉ L) from List.filter_congr fun t ht => by
      by_cases he : t.at' = m
      · have := (hm t).2 ⟨ht, he⟩
        simp [he, this]
      · have : t ∉ L := fun hc => he ((hm t).1 hc).2
        simp [he, this]]
    exact h2
  · rcases List.mem_append.1 ht with h3 | h3
    · exact h0.le t h3
    · have := ((hm t).1 h3).2
      omega
def WAdvP (F : Nat → Prop) (gw k : Nat) (now : Int) (T : List Tm) (n : Int) (w : World) (e : Ending) (w' : World) : Prop :=
  (¬ (0 ≤ n ∧ n ≤ 16777216) ∧ e = .returned (.tuple #[.slice none 0 0, .int .i64 1]) ∧ w' = w) ∨
  ((0 ≤ n ∧ n ≤ 16777216) ∧ ∃ out left vo, e = .returned (.tuple #[vo, .int .i64 0]) ∧ Upto T out left (now + n) ∧ PWE (fun y => F y ∨ w.heap.size ≤ y) gw (k + 1) (now + n) left w' ∧ spanRow w' w.heap.size 38 2 vo out.length (fires out) ∧ Kept F w w')
theorem Av.fin {F : Nat → Prop} {gw gm q k : Nat} {born now0 n : Int} {T out left : List Tm} {V : Nat → Value} {S S0 : Nat → List Tm} {f0 : Int → Int} {h0 : Int → Bool} {c0 : Nat} {vo : Value} {w wr : World} {ed : Ending} (h : Av F gw gm q born (now0 + n) now0 T out left (now0 + n) V S vo w wr) (hI : In k now0 born T S0 f0 h0 c0 q) (hF : F gm) (hn : 0 ≤ n ∧ n ≤ 16777216) (hgt : ∀ t, t ∈ left → now0 + n < t.at') (he : ed = .returned (.tuple #[vo, .int .i64 0])) : WAdvP F gw k now0 T n w ed wr := by
  obtain ⟨f, hh, c, h1, h2⟩ := h.map
  have hs := h.sub
  have hfw := hI.few
  have hnw := hI.nows
  refine .inr ⟨hn, out, left, vo, he, ⟨h.told, h.le, hgt⟩, ⟨gm, born, V, S, f, hh, c, q, h.ww, h1, .inl hF, ⟨h2, h.inv, hI.came.sub hs, fun t ht => hI.old t (hs.subset ht), fun t ht => ⟨hgt t ht, ?_⟩, Nat.le_trans hs.length_le hI.short, by omega, by omega, fun t ht => hI.wf t (hs.subset ht)⟩⟩, h.own, h.kept⟩
  have := (hI.far t (hs.subset ht)).2
  omega
set_option maxRecDepth 20000 in
set_option maxHeartbeats 16000000 in
theorem wAdvance_any (F : Nat → Prop) (gw k : Nat) (now : Int) (T : List Tm) (n : Int) (w : World) (H : PWE F gw k now T w) (hk : k ≤ 300) :
    Calls Try.prog 9 #[.pointer (some ⟨gw, 0, none⟩), .int .i64 n] w fun e w' => WAdvP F gw k now T n w e w' := by
  obtain ⟨gm, born, V, S, f, h, c, q, H⟩ := H
  have c0 := H.ww.c0
  have lw := H.ww.var.lt
  have hnw := H.in'.nows
  have HH := Lib.hid H
  clear H
  by_cases hlo : n < 0
  · have HE : Hid (¬ (0 ≤ n ∧ n ≤ 16777216)) := Lib.hid (by omega)
    clear hnw
    go_enter Try.func9, Try.ntmps9
    go_wp2_with fail
    go_ret2
    exact .inl ⟨HE.out, rfl, rfl⟩
  · cases hhi : decide (n > 16777216) with
    | true =>
      have HE : Hid (¬ (0 ≤ n ∧ n ≤ 16777216)) := Lib.hid (by simp at hhi; omega)
      clear hnw
      go_enter Try.func9, Try.ntmps9
      go_wp2_with fail
      go_ret2
      exact .inl ⟨HE.out, rfl, rfl⟩
    | false =>
      have hn2 : 0 ≤ n ∧ n ≤ 16777216 := by simp at hhi; omega
      have HE := Lib.hid hn2
      have hwr : IntKind.i64.wrap (now + n) = now + n := IntWalk.i64_in _ (by omega)
      obtain ⟨e', he'⟩ : ∃ e, now + n = e := ⟨_, rfl⟩
      rw [he'] at hwr
      have HEE := Lib.hid he'
      have HEB : Hid (0 ≤ now ∧ now ≤ e' ∧ e' ≤ 10000000000) := Lib.hid (by omega)
      have HR0 : Hid (Av F gw gm q born e' now T [] T now V S (.slice none 0 0) w w) := Lib.hid ⟨HH.out.ww.wide (fun x hx => .inl hx), ⟨f, h, c, HH.out.map, HH.out.in'.mt⟩, HH.out.in'.inv, Wh.Told.start T, fun t ht => by simp at ht, spanRow.nil _ _ _ _, Kept.refl _ _, by have := HEB.out; omega, fun t ht => Int.le_of_lt (HH.out.in'.far t ht).1⟩
      clear hnw hn2
      go_enter Try.func9, Try.ntmps9
      go_wp2_with fail
      clear hwr hhi he' c0 lw
      go_loopg [7] T.length (fun g x wr => ∃ (out left : List Tm) (nw : Int) (V : Nat → Value) (S : Nat → List Tm) (vo : Value), left.length = g ∧ vo = x ∧ Hid (Av F gw gm q born e' now T out left nw V S vo w wr))
      case atStart => exact ⟨[], T, now, V, S, _, rfl, rfl, HR0⟩
      case round =>
        clear HR0
        obtain ⟨out, left, nw, V, S, vo, hg, rfl, HR⟩ := hrel
        obtain ⟨f1, h1, c1, hm1, ht1⟩ := HR.out.map
        have HM1 := Lib.hid hm1
        have HT1 := Lib.hid ht1
        have lw := HR.out.ww.var.lt
        have HNX := Lib.hid (wNext_any gw gm q c1 f1 h1 left wr HR.out.ww.c2 lw hm1 ht1)
        clear hm1 ht1
        have hl200 : left.length ≤ 200 := Nat.le_trans HR.out.sub.length_le HH.out.in'.short
        have HL2 := Lib.hid hl200
        go_upto_region 6 with (go_at_call 12; refine Calls.mono HNX.out ?_; rintro e w2 ⟨z, is, rfl, hz, hb2⟩; have HZ := Lib.hid hz; have HR2 := Lib.hid (HR.out.below hb2); clear hz hb2)
        have lw2 := HR2.out.ww.var.lt
        by_cases hgo : is = true ∧ z ≤ e'
        · obtain ⟨rfl, hze⟩ := hgo
          have hzf : decide (z > e') = false := by simp; omega
          obtain ⟨hm1, hm2⟩ : (∃ t, t ∈ left ∧ t.at' = z) ∧ ∀ t, t ∈ left → z ≤ t.at' := by
            rcases HZ.out with ⟨_, _, h9⟩ | ⟨_, h8, h9⟩
            · cases h9
            · exact ⟨h8, h9⟩
          have hnz : nw ≤ z := by obtain ⟨t, ht, rfl⟩ := hm1; exact HR2.out.ge t ht
          have HTO := Lib.hid (to_any _ gw gm nw z born left V S w2 HR2.out.ww HR2.out.inv (HR2.out.ahead HH.out.in' hnz hm2) HL2.out (by have h8 := HEB.out; have h9 := HR2.out.nows; omega))
          have HMM := Lib.hid (show (∃ t, t ∈ left ∧ t.at' = z) ∧ (∀ t, t ∈ left → z ≤ t.at') ∧ nw ≤ z ∧ z ≤ e' from ⟨hm1, hm2, hnz, hze⟩)
          clear hm1 hm2 hnz hze hl200 lw
          go_upto_region 8 with (go_at_call 19; refine Calls.mono HTO.out ?_; rintro e w3 ⟨rfl, V3, S3, hw3, hi3, hk3⟩; have HR3 := Lib.hid (HR2.out.to hw3 hi3 hk3 HMM.out.2.2.1 HMM.out.2.2.2 HMM.out.2.1); clear hw3 hi3 hk3)
          have h0z : 0 ≤ z := by have h8 := HEB.out; have h9 := HR3.out.nows; omega
          have hz2 : z ≤ 1099511627776 := by have h8 := HEB.out; have h9 := HR3.out.nows; omega
          have HSL := Lib.hid (slot_any _ gw gm z born V3 S3 z w3 HR3.out.ww ⟨h0z, hz2⟩ ⟨h0z, hz2⟩)
          have H0Z := Lib.hid h0z
          obtain ⟨cc, hcc⟩ : ∃ c, pl z z = c := ⟨_, rfl⟩
          have hc320 : cc < 320 := by rw [← hcc]; exact pl_lt _ _
          have HCC := Lib.hid hcc
          have HLM : Hid (∀ t, t ∈ S3 cc ↔ t ∈ left ∧ t.at' = z) := Lib.hid (fun t => by
            rw [HR3.out.inv.mem]
            constructor
            · rintro ⟨h8, h9⟩
              exact ⟨h8, pl_now h0z (HMM.out.2.1 t h8) (by rw [h9, hcc])⟩
            · rintro ⟨h8, h9⟩
              exact ⟨h8, by rw [h9, hcc]⟩)
          obtain ⟨m, hm⟩ : ∃ m, (S3 cc).length = m := ⟨_, rfl⟩
          have hm0 : 0 < m := by
            obtain ⟨t, ht, h8⟩ := HMM.out.1
            have := List.length_pos_of_mem ((HLM.out t).2 ⟨ht, h8⟩)
            omega
          have hm200 : m ≤ 200 := by have := inv_few HR3.out.inv cc; have := HL2.out; omega
          have hrow := HR3.out.ww.row cc hc320
          obtain ⟨va, vc, hv, hvc, hvm⟩ := own_sliceF hrow
          rw [hm] at hv hvc
          obtain ⟨g, hgg⟩ : ∃ g, va = some ⟨g, 0, none⟩ := by
            rcases hrow.2 with ⟨e, e9⟩ | ⟨g, cap, cur, e, _⟩
            · omega
            · rw [hv] at e
              simp only [Value.slice.injEq] at e
              exact ⟨g, e.1⟩
          subst hgg
          have HV := Lib.hid hv
          have HM := Lib.hid hm
          clear hcc hm hrow hv hz2 h0z hzf
          go_upto_region 9 with (go_at_call 16; refine Calls.mono HSL.out ?_; rintro e w4 ⟨rfl, hq4⟩; rw [HCC.out]; have HQ4 := Lib.hid hq4; clear hq4)
          have hb4 : Below w3.heap.size w3 w4 := by obtain ⟨q, rfl⟩ := HQ4.out; exact (Drawn.drewN w3 q).below _
          have HR4 := Lib.hid (HR3.out.below hb4)
          have d0 : w4.cell? ⟨gw, 3 + cc, none⟩ = some (.slice (some ⟨g, 0, none⟩) m vc) := by rw [← HV.out]; exact HR4.out.ww.cs hc320
          have d2 := HR4.out.ww.var.lt
          have HSO : Hid (Calls Try.prog 20 #[.slice (some ⟨g, 0, none⟩) m vc, .func (.func 21) #[] #[]] w4 fun e w' => e = .returned (.tuple #[]) ∧ ∃ L', L'.length = m ∧ (∀ t, t ∈ L' ↔ t ∈ left ∧ t.at' = z) ∧ L'.Pairwise (fun a b => a.born < b.born) ∧ AvI F gw gm q born out left z V3 (upd S3 cc L') w L' 0 0 vo w') := Lib.hid (by
            have hrow := HR4.out.ww.row cc hc320
            rw [HV.out, HM.out] at hrow
            obtain ⟨f5, h5, _, h7, h8, h9⟩ := own_toRow hrow
            have hbn : ((S3 cc).map Tm.born).Nodup := by
              rw [List.Nodup, List.pairwise_map]
              refine List.Pairwise.imp_of_mem (fun {a b} ha hb hab e => hab ?_) (HR4.out.inv.nodup cc)
              have ha2 := HR3.out.sub.subset ((HLM.out a).1 ha).1
              have hb2 := HR3.out.sub.subset ((HLM.out b).1 hb).1
              have hcb := HH.out.in'.came.born
              obtain ⟨i, hi, rfl⟩ := List.getElem_of_mem ha2
              obtain ⟨j, hj, rfl⟩ := List.getElem_of_mem hb2
              rw [List.pairwise_iff_getElem] at hcb
              rcases Nat.lt_trichotomy i j with hij | hij | hij
              · have := hcb i j hi hj hij; omega
              · subst hij; rfl
              · have := hcb j i hj hi hij; omega
            refine (sort_any (S3 cc) g m vc f5 w4 h5 h7 HM.out (by omega) (fun p t hp => TmAt.of h9 hp) hbn).mono ?_
            rintro e w' ⟨rfl, L', hp, hb, ⟨f6, h6, hx6⟩, hk6⟩
            have hln : L'.length = m := by rw [hp.length_eq, HM.out]
            exact ⟨rfl, L', hln, fun t => by rw [hp.mem_iff]; exact HLM.out t, hb, HR4.out.turned hc320 HV.out HM.out hk6 h6 hln hx6⟩)
          clear hb4
          go_upto_region 10 with (go_at_call 20; refine Calls.mono HSO.out ?_; rintro e w5 ⟨rfl, L, hL1, hL2, hL3, hI5⟩; have HL1 := Lib.hid hL1; have HLM2 := Lib.hid hL2; have HLB := Lib.hid hL3; have HI5 := Lib.hid hI5; clear hL1 hL2 hL3 hI5)
          clear d0 d2
          have d0 : w5.cell? ⟨gw, 3 + cc, none⟩ = some (.slice (some ⟨g, 0, none⟩) m vc) := by rw [← HV.out]; exact HI5.out.ww.cs hc320
          have d2 := HI5.out.ww.var.lt
          have HND : Hid (L.Nodup ∧ Came left) := Lib.hid ⟨HLB.out.imp fun {a b} hab e => by subst e; omega, HH.out.in'.came.sub HR3.out.sub⟩
          have HOL : Hid (out.length ≤ 200) := Lib.hid (by
            have hnd : out.Nodup := HR3.out.told.row.imp fun {a b} hab e => by subst e; exact lt_irrefl _ hab
            have := hnd.length_le_of_subset (l₂ := T) fun t ht => HR3.out.told.sub t ht
            have := HH.out.in'.short
            omega)
          have HMB := Lib.hid (show 0 < m ∧ m ≤ 200 from ⟨hm0, hm200⟩)
          go_wp2_with fail
          obtain ⟨gq', rfl⟩ : ∃ q, q = gk := ⟨_, rfl⟩
          clear d0 d2 lw2
          go_loopg [7, 51] m (fun gg y x wx => ∃ (i : Nat) (vo : Value), i + gg = m ∧ vo = y ∧ x = .int .i64 (i : Int) ∧ Hid (AvI F gw gm q born out left z V3 (upd S3 cc L) w L i i vo wx))
          case atStart => exact ⟨0, _, by omega, rfl, rfl, HI5⟩
          case round =>
            clear HI5
            obtain ⟨i, vo, hi, rfl, rfl, HI⟩ := hrel
            by_cases him : i < m
            · obtain ⟨x, hx⟩ : ∃ x, L[i]? = some x := ⟨_, List.getElem?_eq_getElem (by have := HL1.out; omega)⟩
              have hrow := HI.out.ww.row cc hc320
              rw [HV.out, show upd S3 cc L cc = L from by unfold upd; rw [if_pos rfl], HL1.out] at hrow
              obtain ⟨f5, h5, _, h7, _, h9⟩ := own_toRow hrow
              obtain ⟨y0, y1, y2⟩ := TmAt.of h9 hx
              have q0 : wr.cell? ⟨g, i * 3, none⟩ = some (.int .i64 x.at') := by rw [← y0]; exact h5.cell (by omega)
              have q1 : wr.cell? ⟨g, i * 3 + 1, none⟩ = some (.int .i64 x.id) := by rw [← y1]; exact h5.cell (by omega)
              have q2 : wr.cell? ⟨g, i * 3 + 2, none⟩ = some (.int .i64 x.born) := by rw [← y2]; exact h5.cell (by omega)
              have lg := h5.lt
              obtain ⟨W6, hW6⟩ : ∃ W, W = wr.alloc (.cells #[.int .i64 x.at', .int .i64 x.id, .int .i64 x.born] 51) := ⟨_, rfl⟩
              have hb6 : Below wr.heap.size wr W6 := by rw [hW6]; exact (Below.refl _ _).alloc (Nat.le_refl _) _
              have HI6 := Lib.hid (HI.out.below hb6)
              obtain ⟨bx, hbx⟩ : ∃ c, wr.heap.size = c := ⟨_, rfl⟩
              have v0 : W6.cell? ⟨bx, 0, none⟩ = some (.int .i64 x.at') := by rw [hW6, ← hbx]; simp
              have v1 : W6.cell? ⟨bx, 1, none⟩ = some (.int .i64 x.id) := by rw [hW6, ← hbx]; simp
              have v2 : W6.cell? ⟨bx, 2, none⟩ = some (.int .i64 x.born) := by rw [hW6, ← hbx]; simp
              have v3 : bx < W6.heap.size := by rw [hW6, ← hbx]; simp
              have HBN : Hid (vo.ownBlock ≠ some bx) := Lib.hid (fun e => by have := (HI.out.own.lt bx e).2; omega)
              have i1 : (0 : Int) ≤ (i : Int) := by omega
              have i2 : (i : Int) < (m : Int) := by omega
              have HXX := Lib.hid hx
              have HXL : Hid (x ∈ left) := Lib.hid ((HLM2.out x).1 (List.mem_of_getElem? hx)).1
              obtain ⟨so, hso⟩ : ∃ n, (out ++ L.take i).length = n := ⟨_, rfl⟩
              have hso2 : so ≤ 400 := by
                have h8 := HOL.out
                rw [← hso, List.length_append, List.length_take]
                omega
              have HSO2 := Lib.hid hso
              clear hx hrow h5 h7 h9 y0 y1 y2 hb6 hso
              go_upto_region 13 with fail
              rw [← hW6]
              clear hW6 q0 q1 q2 lg hbx
              go_upto_region 14 with (at_builtin; go_loud (refine wpList_push_span _ (by rfl) _ _ 26 (by rfl) w.heap.size 38 (.agg #[.int .i64 0, .int .i64 0]) 2 16 Try.underlying26 infoFire (by rfl) vo so _ [.int .i64 x.at', .int .i64 x.id] _ rfl (by rfl) (by have h := HI6.out.own; rw [HSO2.out] at h; exact h) (by rfl) (by rfl) (by intro u hu; simp at hu; rcases hu with rfl | rfl <;> rfl) (by unfold maxLen; omega) (by omega) HI6.out.kept.size ?_; intro g7 off7 cap7 w7 hs7 hg7 hgb7; have HI7 := Lib.hid (HI6.out.push HXX.out (by rw [HSO2.out]; exact hs7) hg7); have u1 : w7.cell? ⟨bx, 1, none⟩ = some (.int .i64 x.id) := hg7.cell v1 (fun e => HBN.out e.symm); have u2 : bx < w7.heap.size := Nat.lt_of_lt_of_le v3 hg7.size; clear hs7 hg7 hgb7))
              obtain ⟨f8, h8, c8, hM8, hT8⟩ := HI7.out.map
              have HM8 := Lib.hid hM8
              have HT8 := Lib.hid hT8
              obtain ⟨W8, hW8⟩ : ∃ W, w7.drew = W := ⟨_, rfl⟩
              have hb8 : Below w7.heap.size w7 W8 := by rw [← hW8]; exact (Below.refl _ _).drew
              have HI8 := Lib.hid (HI7.out.below hb8)
              have hidw : (Lit.int .i64 x.id).wf = true := HH.out.in'.wf x (HR3.out.sub.subset HXL.out)
              obtain ⟨W9, hdel, hM9, ht9⟩ := (hM8.below hb8).strike hidw 0
              have HI9 := Lib.hid (HI8.out.del (hM8.below hb8) hT8 HXX.out HND.out.2 HXL.out HND.out.1 HH.out.fm hM9 ht9)
              have e2 := HI8.out.ww.c2
              have el := HI8.out.ww.var.lt
              have u3 : W8.cell? ⟨bx, 1, none⟩ = some (.int .i64 x.id) := by rw [← hW8]; exact u1
              have u4 : bx < W8.heap.size := by rw [← hW8]; exact u2
              rw [show (out ++ L.take (i + 1)).length = so + 1 from by rw [List.take_add_one, HXX.out, ← List.append_assoc]; simp; have := HSO2.out; simp at this; omega] at HI9
              clear v0 v1 v2 v3 hM8 hT8 hb8 hidw hM9 ht9
              go_region
              all_goals
                clear hdel hW8 e2 el u1 u2 u3 u4
                go_wp2_with fail
                go_roundg (m - (i + 1))
                case measure => omega
                case rel => exact ⟨i + 1, _, by omega, rfl, by simp, HI9⟩
            · obtain rfl : i = m := by omega
              have HAD := Lib.hid (HI.out)
              have d0 : wr.cell? ⟨gw, 3 + cc, none⟩ = some (.slice (some ⟨g, 0, none⟩) i vc) := by rw [← HV.out]; exact HI.out.ww.cs hc320
              have d1 := HI.out.ww.var.frozen (3 + cc)
              have d2 := HI.out.ww.var.lt
              have HDN : Hid (Av F gw gm q born e' now T (out ++ L) (left.filter fun t => t.at' != z) z (updV V3 cc (.slice none 0 0)) (upd S3 cc []) vo w (wr.setCell ⟨gw, 3 + cc, none⟩ (.slice none 0 0))) := Lib.hid (by
                have h1 := HI.out
                have h2 := HCC.out
                rw [← h2] at h1
                have h3 := h1.done HR3.out H0Z.out HL1.out HLB.out HLM2.out HMM.out.2.1 HMM.out.2.2.2
                rw [h2] at h3
                exact h3)
              have HLS : Hid ((left.filter fun t => t.at' != z).length < left.length) := Lib.hid (by
                obtain ⟨t, ht, h8⟩ := HMM.out.1
                have h9 : t ∉ left.filter fun t => t.at' != z := fun hm => by
                  have := (List.mem_filter.1 hm).2
                  simp [h8] at this
                have h10 : (left.filter fun t => t.at' != z).length ≤ left.length := List.length_filter_le _ _
                rcases Nat.lt_or_eq_of_le h10 with h11 | h11
                · exact h11
                · exact absurd (by rw [(List.filter_sublist.eq_of_length h11)]; exact ht) h9)
              go_wp2_with fail
              go_roundg (left.filter fun t => t.at' != z).length
              case measure => have := HLS.out; omega
              case rel => exact ⟨_, _, _, _, _, _, rfl, rfl, HDN⟩
        · have HX : Hid (∀ t, t ∈ left → e' < t.at') := Lib.hid (fun t ht => by
            rcases HZ.out with ⟨h8, _, _⟩ | ⟨h8, _, h9⟩
            · rw [h8] at ht; simp at ht
            · have := h9 t ht
              have : ¬ z ≤ e' := fun h => hgo ⟨h8, h⟩
              omega)
          have HTO := Lib.hid (to_any _ gw gm nw e' born left V S w2 HR2.out.ww HR2.out.inv (HR2.out.ahead HH.out.in' HR2.out.nows.2 (fun t ht => Int.le_of_lt (HX.out t ht))) HL2.out (by have h8 := HEB.out; have h9 := HR2.out.nows; omega))
          have hcond : is = false ∨ (is = true ∧ decide (z > e') = true) := by
            cases is with
            | false => exact .inl rfl
            | true => exact .inr ⟨rfl, by simp; exact Int.lt_of_not_ge fun h => hgo ⟨rfl, h⟩⟩
          clear hgo hl200 lw
          rcases hcond with rfl | ⟨rfl, hgt⟩
          · go_wp2_with (go_at_call 19; refine Calls.mono HTO.out ?_; rintro e w3 ⟨rfl, V3, S3, hw3, hi3, hk3⟩; have HR3 := Lib.hid (HR2.out.to hw3 hi3 hk3 HR2.out.nows.2 (Int.le_refl _) (fun t ht => Int.le_of_lt (HX.out t ht))); clear hw3 hi3 hk3)
            go_ret2
            have h9 := HR3.out
            rw [← HEE.out] at h9
            exact h9.fin HH.out.in' HH.out.fm HE.out (fun t ht => by rw [HEE.out]; exact HX.out t ht) rfl
          · go_wp2_with (go_at_call 19; refine Calls.mono HTO.out ?_; rintro e w3 ⟨rfl, V3, S3, hw3, hi3, hk3⟩; have HR3 := Lib.hid (HR2.out.to hw3 hi3 hk3 HR2.out.nows.2 (Int.le_refl _) (fun t ht => Int.le_of_lt (HX.out t ht))); clear hw3 hi3 hk3)
            go_ret2
            have h9 := HR3.out
            rw [← HEE.out] at h9
            exact h9.fin HH.out.in' HH.out.fm HE.out (fun t ht => by rw [HEE.out]; exact HX.out t ht) rfl
end Go.Proofs.Ytjoejdpoehpkiaa
