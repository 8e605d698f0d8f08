/- The card JournalTells. -/
import Derived.Test.YtkemlckmfgacdaaGreatDoorJnP50
import Derived.Test.YtkemlckmfgacdaaGreatDoorCards
import Derived.Test.YtkemlckmfgacdaaGreatDoorTie
import Derived.Deep.DeepHandedRow
import Derived.Lib.LaidTab
import Derived.ChangeMaps5
import Derived.Stop.LaidErr
import Derived.Lib.SmallJoins
import Derived.OpenShut
import Derived.Test.YtkemlckmfgacdaaGreatDoorJnP51
import Derived.LaidMore
import Derived.Lay
import Derived.Stop.Joined
namespace Go.Proofs.YtkemlckmfgacdaaGreatDoor.journalTells
set_option maxRecDepth 20000
set_option maxHeartbeats 64000000
open Go.ChangeShapes Go.WideShapes Go.ChangeAt Go.RowKit Go.Joins Go.Deep
set_option linter.unusedVariables false
set_option maxRecDepth 100000
theorem cells29 : Tryz.prog.cellsOf 29 = 11 := by kernel_rfl
theorem cells26 : Tryz.prog.cellsOf 26 = 5 := by kernel_rfl
theorem cells23 : Tryz.prog.cellsOf 23 = 3 := by kernel_rfl
theorem cells27 : Tryz.prog.cellsOf 27 = 1 := by kernel_rfl
theorem cells9 : Tryz.prog.cellsOf 9 = 1 := by kernel_rfl
theorem cells3 : Tryz.prog.cellsOf 3 = 1 := by kernel_rfl
theorem cells2 : Tryz.prog.cellsOf 2 = 1 := by kernel_rfl
theorem cellsL : Tryz.prog.cellsOf 24 = 1 := by kernel_rfl
theorem cells40 : Tryz.prog.cellsOf 40 = 15 := by kernel_rfl
theorem cells4 : Tryz.prog.cellsOf 4 = 1 := by kernel_rfl
theorem cells5 : Tryz.prog.cellsOf 5 = 1 := by kernel_rfl
theorem fifteen_of {cs : Array Value} (h : cs.size = 15) : ∃ k a b c d e f g i j m l n q o, cs = #[k, a, b, c, d, e, f, g, i, j, m, l, n, q, o] := by
 obtain ⟨l⟩ := cs
 match l, h with
 | [k, a, b, c, d, e, f, g, i, j, m, l, n, q, o], _ => exact ⟨k, a, b, c, d, e, f, g, i, j, m, l, n, q, o, rfl⟩
theorem eleven_of {cs : Array Value} (h : cs.size = 11) : ∃ a b c d e f g i j k l, cs = #[a, b, c, d, e, f, g, i, j, k, l] := by
 obtain ⟨l⟩ := cs
 match l, h with
 | [a, b, c, d, e, f, g, i, j, k, l], _ => exact ⟨a, b, c, d, e, f, g, i, j, k, l, rfl⟩
theorem jobCells {H : Type} {enc : TypeId × Value → H} {W : World} {fu : Nat} {c0 c1 c2 c3 c4 c5 c6 c7 c8 c9 c10 : Value} {y : DataW H × List MemPlace} (hf : DataW.trod enc Tryz.prog W 0 (fun _ => true) true fu 29 [c0, c1, c2, c3, c4, c5, c6, c7, c8, c9, c10] = some y) (hk : Rows.uptoBulk y.1 ≤ 1048576) : ∃ j : Jm.Jb, JobV W j (.agg #[c0, c1, c2, c3, c4, c5, c6, c7, c8, c9, c10]) ∧ j.ask.size ≤ 1048576 := by
 obtain ⟨d, p⟩ := y
 simp only at hk
 obtain ⟨ps0, _, y0, e0, k0, g0⟩ := field Tryz.underlying29 hf 0 9 0 1 (by rfl) cells9
 obtain ⟨ps1, _, y1, e1, k1, g1⟩ := field Tryz.underlying29 hf 1 3 1 1 (by rfl) cells3
 obtain ⟨ps2, _, y2, e2, k2, g2⟩ := field Tryz.underlying29 hf 2 23 2 3 (by rfl) cells23
 obtain ⟨ps3, _, y3, e3, k3, g3⟩ := field Tryz.underlying29 hf 3 26 5 5 (by rfl) cells26
 obtain ⟨ps4, _, y4, e4, k4, g4⟩ := field Tryz.underlying29 hf 4 27 10 1 (by rfl) cells27
 have g2' : DataW.trod enc Tryz.prog W 0 (fun _ => true) true _ 23 [c2, c3, c4] = some y2 := g2
 obtain ⟨_, _, z0, _, _, m0⟩ := field Tryz.underlying23 g2' 0 2 0 1 (by rfl) cells2
 obtain ⟨_, _, z1, _, _, m1⟩ := field Tryz.underlying23 g2' 1 2 1 1 (by rfl) cells2
 obtain ⟨_, _, z2, _, _, m2⟩ := field Tryz.underlying23 g2' 2 2 2 1 (by rfl) cells2
 obtain ⟨s0, hs0, hy0, hz0⟩ := DataW.trod_string Tryz.underlying9 g0
 obtain ⟨n1, hn1, _⟩ := cell_int Tryz.underlying3 (by simpa using g1)
 obtain ⟨n2, hn2, _⟩ := cell_int Tryz.underlying2 (by simpa using m0)
 obtain ⟨n3, hn3, _⟩ := cell_int Tryz.underlying2 (by simpa using m1)
 obtain ⟨n4, hn4, _⟩ := cell_int Tryz.underlying2 (by simpa using m2)
 have zs : c0 = .string s0 := by simpa using hs0
 subst zs hn1 hn2 hn3 hn4
 simp only at e0 e3
 have hb3 : Rows.uptoBulk y3.1 ≤ Rows.uptoBulk d := by
  have := bulk_all k3
  rw [e3, Rows.uptoBulk]
  omega
 have hb0 : Rows.uptoBulk y0.1 ≤ Rows.uptoBulk d := by
  have := bulk_all k0
  rw [e0, Rows.uptoBulk]
  omega
 have hul : (lst s0).length ≤ 1099511627776 := by
  rw [hy0] at hb0
  simp only [Rows.uptoBulk] at hb0
  show s0.data.toList.length ≤ _
  omega
 obtain ⟨x, hx, hxs⟩ := open_ask Tryz.underlying26 Tryz.underlying9 Tryz.underlying3 Tryz.underlying2 Tryz.underlying24 cells26 cells9 cells3 cells2 cellsL (by rfl) (by rfl) (by rfl) (by rfl) (by rfl) (Rows.uptoBulk y3.1) _ c5 c6 c7 c8 c9 y3 lr g3
 obtain ⟨q0, q1, q2, q3, qd, ql, qc, hq⟩ := hx.form
 obtain ⟨t1, t2, t3, t4, t5⟩ : c5 = .int .i64 q0 ∧ c6 = .string q1 ∧ c7 = .string q2 ∧ c8 = .int .i64 q3 ∧ c9 = .slice qd ql qc := by simpa using hq
 subst t1 t2 t3 t4 t5
 obtain ⟨a, n, cap, R, hv, hn, _, hnc, hcap, hV⟩ := rowsIntJ (v := c10) Tryz.underlying27 Tryz.underlying3 cells3 (by
  rcases open_slice Tryz.underlying27 g4 with ⟨e, _⟩ | ⟨ad', len, cap, m, n, D, Pl, e, _⟩
  ·exact ⟨none, 0, 0, by simpa using e⟩
  ·exact ⟨some ad', len, cap, by simpa using e⟩) g4
 subst hv hn
 exact ⟨⟨lst s0, n1, n2, n3, n4, x, R⟩, ⟨q0, q1, q2, q3, qd, ql, qc, a, cap, by unfold jobVal; rw [bts_lst], ⟨hx, hV, hul, hnc, hcap⟩⟩, by show x.size ≤ _; omega⟩
theorem argEvent {H : Type} {enc : TypeId × Value → H} {base : Nat} {W : World} {v : Value} {d : DataW H} {p : List MemPlace} (o : Value.okWide Tryz.prog W .any base 40 v) (h : DataW.Trod enc Tryz.prog W 0 (fun _ => true) true 40 v d p) (hk : Rows.uptoBulk d ≤ 1048576) : ∃ x : Ev.Evt, EvV W x v ∧ x.job.ask.size ≤ 1048576 := by
 obtain ⟨cs, rfl, hs⟩ := okWide_struct Tryz.underlying40 o
 obtain ⟨z0, c0, c1, c2, c3, c4, c5, c6, c7, c8, c9, c10, z1, z2, z3, rfl⟩ := fifteen_of (hs.trans cells40)
 obtain ⟨fu, hf0⟩ := h
 have hf : DataW.trod enc Tryz.prog W 0 (fun _ => true) true fu 40 [z0, c0, c1, c2, c3, c4, c5, c6, c7, c8, c9, c10, z1, z2, z3] = some (d, p) := hf0
 obtain ⟨_, _, y0, _, _, g0⟩ := field Tryz.underlying40 hf 0 3 0 1 (by rfl) cells3
 obtain ⟨ps1, _, y1, e1, k1, g1⟩ := field Tryz.underlying40 hf 1 29 1 11 (by rfl) cells29
 obtain ⟨_, _, y2, _, _, g2⟩ := field Tryz.underlying40 hf 2 2 12 1 (by rfl) cells2
 obtain ⟨_, _, y3, _, _, g3⟩ := field Tryz.underlying40 hf 3 3 13 1 (by rfl) cells3
 obtain ⟨_, _, y4, _, _, g4⟩ := field Tryz.underlying40 hf 4 4 14 1 (by rfl) cells4
 obtain ⟨n0, hn0, _⟩ := cell_int Tryz.underlying3 (by simpa using g0)
 obtain ⟨n2, hn2, _⟩ := cell_int Tryz.underlying2 (by simpa using g2)
 obtain ⟨n3, hn3, _⟩ := cell_int Tryz.underlying3 (by simpa using g3)
 obtain ⟨b4, hb4, _⟩ := DataW.trod_bool Tryz.underlying4 g4
 have zb : z3 = .bool b4 := by simpa using hb4
 subst hn0 hn2 hn3 zb
 simp only at e1
 have hb1 : Rows.uptoBulk y1.1 ≤ Rows.uptoBulk d := by
  have := bulk_all k1
  rw [e1, Rows.uptoBulk]
  omega
 have g1' : DataW.trod enc Tryz.prog W 0 (fun _ => true) true _ 29 [c0, c1, c2, c3, c4, c5, c6, c7, c8, c9, c10] = some y1 := g1
 obtain ⟨j, hj, hjs⟩ := jobCells g1' (by omega)
 obtain ⟨x0, x1, x2, x3, xd, xl, xc, aa, ac, e, hp⟩ := hj
 refine ⟨⟨n0, j, n2, n3, b4⟩, ⟨x0, x1, x2, x3, xd, xl, xc, aa, ac, ?_, hp⟩, hjs⟩
 unfold jobVal at e
 simp only [Value.agg.injEq, Array.mk.injEq, List.cons.injEq, and_true] at e
 obtain ⟨rfl, rfl, rfl, rfl, rfl, rfl, rfl, rfl, rfl, rfl, rfl⟩ := e
 rfl
theorem argBytes {H : Type} {enc : TypeId × Value → H} {base : Nat} {W : World} {v : Value} {d : DataW H} {p : List MemPlace} (o : Value.okWide Tryz.prog W .any base 41 v) (h : DataW.Trod enc Tryz.prog W 0 (fun _ => true) true 41 v d p) : ∃ (a : Option Addr) (n cap : Nat) (s : Tp.Bs), v = .slice a n cap ∧ s.length = n ∧ n ≤ cap ∧ cap ≤ 9223372036854775807 ∧ BytA W a s := by
 obtain ⟨ad, len, cap, rfl⟩ := okWide_slice Tryz.underlying41 o
 obtain ⟨fu, hf⟩ := h
 obtain ⟨a, n, cap', s, e, h1, h2, h3, h4⟩ := rowsByte Tryz.underlying41 Tryz.underlying5 cells5 ⟨ad, len, cap, rfl⟩ (show DataW.trod enc Tryz.prog W 0 (fun _ => true) true fu 41 [.slice ad len cap] = some (d, p) from hf)
 exact ⟨a, n, cap', s, e, h1, h2, h3, ⟨h4⟩⟩
theorem entry {H : Type} {enc : TypeId × Value → H} {base : Nat} (W : World) {v0 v1 : Value} {d0 d1 : DataW H} {p0 p1 : List MemPlace}
  (o0 : Value.okWide Tryz.prog W .any base 40 v0) (h0 : DataW.Trod enc Tryz.prog W 0 (fun _ => true) true 40 v0 d0 p0)
  (o1 : Value.okWide Tryz.prog W .any base 41 v1) (h1 : DataW.Trod enc Tryz.prog W 0 (fun _ => true) true 41 v1 d1 p1)
  (hk : Rows.uptoBulkAll [d0, d1] ≤ 1048576)
  (hL : laidMetH Tryz.prog Rows.journalTellsUptoRow.laid W) (hSh : W.ShapedOpen Tryz.prog)
  : Calls Tryz.prog 5 #[v0, v1] W fun e w' => e = .returned (.bool true) ∧ Below W.heap.size W w' := by
 obtain ⟨x, hx, hxs⟩ := argEvent o0 h0 (by
  have b0 := bulk_all (l := [d0, d1]) (i := 0) rfl
  omega)
 obtain ⟨a, n, cap, s, rfl, hn, hcap, hmax, hb⟩ := argBytes o1 h1
 exact jnLaw_any x _ s a n cap W (by omega) (env_of hSh hL) hx hn hcap hmax hb
theorem own : ownKnob Tryz.prog.godebug = none := by kernel_rfl
theorem laidOut : laidOutB Tryz.prog = true := by kernel_rfl
theorem contract (H : Type) (enc : TypeId × Value → H) (W : World) (base : Nat) (args : Array Value) (ds gs : List (DataW H)) (before : List MemPlace)
  (hval0 : ∀ (j : Nat) t v, Tryz.f5.params[j]? = some t → args[j]? = some v → Value.okWide Tryz.prog W .any base t v)
  (hW : DataW.Whole enc Tryz.prog Tryz.f5.params.toList Rows.journalTellsSpec.vars false W args.toList ds gs before)
  (hk0 : Rows.uptoSmall H (ds ++ gs) = true) (hL : laidMetH Tryz.prog Rows.journalTellsUptoRow.laid W) (hSh : W.ShapedOpen Tryz.prog) :
  Calls Tryz.prog 5 args W fun e W' => ∃ v, e = .returned v ∧ Rows.journalTellsSpec.post enc Tryz.prog Tryz.f5 false true false false W args v W' := by
 have hval : ∀ (j : Nat) t v, Tryz.f5.params[j]? = some t → args[j]? = some v → Value.okWide Tryz.prog W .any base t v := hval0
 have hW' := hW
 obtain ⟨p, q, hA0, hV, rfl, hfz, hnd⟩ := hW
 have hA : DataW.TrodAll enc Tryz.prog W 0 (fun _ => true) true Tryz.f5.params.toList args.toList ds p := hA0
 rw [Tryz.params5] at hA hval
 obtain ⟨v0, vs0, d0, ds0, p0, q0, hargs, rfl, rfl, h0, r0⟩ := trodAll_cons hA
 obtain ⟨v1, vs1, d1, ds1, p1, q1, rfl, rfl, rfl, h1, r1⟩ := trodAll_cons r0
 obtain ⟨rfl, rfl, rfl⟩ := trodAll_nil r1
 obtain rfl : args = #[v0, v1] := by cases args; simp_all
 obtain ⟨rfl, rfl⟩ := trodVars_none hV
 have lt0 : ∀ x ∈ p0, x.block < W.heap.size := by obtain ⟨m, hm⟩ := h0; exact DataW.trod_lt m _ _ _ hm
 have lt1 : ∀ x ∈ p1, x.block < W.heap.size := by obtain ⟨m, hm⟩ := h1; exact DataW.trod_lt m _ _ _ hm
 have hk : Rows.uptoBulkAll [d0, d1] ≤ 1048576 := of_decide_eq_true hk0
 refine (entry (enc := enc) W (hval 0 40 v0 rfl rfl) h0 (hval 1 41 v1 rfl rfl) h1 hk hL hSh).mono fun e W' ⟨he, bel⟩ => ?_
 subst he
 exact ⟨_, rfl, _, _, _, [], _, [], hW', trodAll_mk1 (shut_bool Tryz.underlying4 _), (trodAll_cons_mk (Below.trod laidOut (by kernel_rfl) (of_decide_eq_true (by kernel_rfl)) h0 bel lt0) (trodAll_cons_mk (Below.trod laidOut (by kernel_rfl) (of_decide_eq_true (by kernel_rfl)) h1 bel lt1) trodAll_mk0)), rfl, bel.frame _, fun h => by cases h⟩

noncomputable def laidWorld (os : Os) : World := World.laidAll Tryz.prog os Rows.journalTellsUptoRow.laid
theorem laid_met (os : Os) : laidMet Tryz.prog Rows.journalTellsUptoRow.laid ((laidWorld os).forCall (fun _ _ => 0) ⟨#[], #[.agg #[.int .i64 0, .string ⟨#[]⟩, .int .i64 0, .int .i64 0, .int .i64 0, .int .i64 0, .int .i64 0, .string ⟨#[]⟩, .string ⟨#[]⟩, .int .i64 0, .slice none 0 0, .slice none 0 0, .int .i64 0, .int .i64 0, .bool false], .slice none 0 0], []⟩).memory :=
 laidMet_laidAll _ (by kernel_rfl) (by kernel_rfl)
set_option maxRecDepth 100000 in
theorem lifted (os : Os) (started : os.Started) (H : Type) (enc : TypeId × Value → H) (F : Stop.Interp) :
  ReturnsInHanded {} Tryz.checked os 5 .any ((Rows.OpenSpec.upto Rows.journalTellsSpec).preRow enc Tryz.prog Tryz.f5 Rows.journalTellsUptoRow.domain false Rows.journalTellsUptoRow.laid) (((Rows.OpenSpec.upto Rows.journalTellsSpec).at F).post enc Tryz.prog Tryz.f5 false true false false) := by
 have hx : ∃ places, DataW.whole enc Tryz.prog ((laidWorld os).forCall (fun _ _ => 0) ⟨#[], #[.agg #[.int .i64 0, .string ⟨#[]⟩, .int .i64 0, .int .i64 0, .int .i64 0, .int .i64 0, .int .i64 0, .string ⟨#[]⟩, .string ⟨#[]⟩, .int .i64 0, .slice none 0 0, .slice none 0 0, .int .i64 0, .int .i64 0, .bool false], .slice none 0 0], []⟩).memory Tryz.f5.params.toList Rows.journalTellsSpec.vars false (#[.agg #[.int .i64 0, .string ⟨#[]⟩, .int .i64 0, .int .i64 0, .int .i64 0, .int .i64 0, .int .i64 0, .string ⟨#[]⟩, .string ⟨#[]⟩, .int .i64 0, .slice none 0 0, .slice none 0 0, .int .i64 0, .int .i64 0, .bool false], .slice none 0 0] : Array Value).toList 8 = some ([.agg [.lit (.int .i64 0), .agg [.lit (.string []), .lit (.int .i64 0), .agg [.lit (.int .i64 0), .lit (.int .i64 0), .lit (.int .i64 0)], .agg [.lit (.int .i64 0), .lit (.string []), .lit (.string []), .lit (.int .i64 0), .nil], .nil], .lit (.int .i64 0), .lit (.int .i64 0), .lit (.bool false)], .nil], [], places) := ⟨[], by kernel_rfl⟩
 obtain ⟨places, hx⟩ := hx
 refine returnsInHanded_of_row (C := Tryz.checked) (s := Rows.OpenSpec.upto Rows.journalTellsSpec) own started (by kernel_rfl) Tryz.func5
  (witness_row_at (enc := enc) (C := Tryz.checked) false (laidWorld os) #[.agg #[.int .i64 0, .string ⟨#[]⟩, .int .i64 0, .int .i64 0, .int .i64 0, .int .i64 0, .int .i64 0, .string ⟨#[]⟩, .string ⟨#[]⟩, .int .i64 0, .slice none 0 0, .slice none 0 0, .int .i64 0, .int .i64 0, .bool false], .slice none 0 0] (World.laidAll_os _ _ _) (by kernel_rfl) (by kernel_rfl) (by kernel_rfl)
   (OpenSpec.preRow_of_cond 8 hx (by kernel_rfl) (fun k hk => by cases hk; kernel_rfl) (by kernel_rfl) (laid_met os))) ?_
 intro W base args ds gs before hval hW _ hcond hsz hL hSh _
 exact contract H enc W base args ds gs before hval hW (hcond _ rfl) hL hSh

theorem over : Rows.JournalTellsUptoSaid :=
 OpenClaim.holds_of_cond 5 Tryz.f5 rfl rfl rfl rfl rfl rfl rfl ⟨rfl, rfl, rfl, rfl, rfl⟩ rfl rfl rfl rfl rfl (by kernel_rfl) Tryz.func5 (by kernel_rfl)
  (of_decide_eq_true (by kernel_rfl)) (by unfold Func.isWrapper; first | (rw [if_pos (by decide +kernel)]; kernel_rfl) | (rw [if_neg (by decide +kernel)]; exact ⟨rfl, rfl⟩))
  (fun os started H enc _ F => by rw [OpenClaim.pre_eq_preRow]; exact lifted os started H enc F)
theorem plain (f : FuncId) (fn : Func) (hf : Tryz.pinned.checked.prog.funcNamed "shiftbell/shiftbelllaw.JournalTells" = some f) (hfn : Tryz.pinned.checked.prog.funcs[f]? = some fn) :
  true = Tryz.pinned.checked.prog.looks [] ∧ ∀ (j : Nat) t, fn.params[j]? = some t → Tryz.pinned.checked.prog.wantsStandIn t = false := by
 obtain rfl : f = 5 := Option.some.inj ((show Tryz.prog.funcNamed "shiftbell/shiftbelllaw.JournalTells" = some 5 by kernel_rfl).symm.trans hf) |>.symm
 obtain rfl : fn = Tryz.f5 := (Option.some.inj (Tryz.func5.symm.trans hfn)).symm
 refine ⟨by kernel_rfl, fun j t ht => ?_⟩
 rw [Tryz.params5] at ht
 have hm := Array.mem_of_getElem? ht
 have k40 : Tryz.prog.wantsStandIn 40 = false := by kernel_rfl
 have k41 : Tryz.prog.wantsStandIn 41 = false := by kernel_rfl
 have key : ∀ t ∈ (#[40, 41] : Array Nat), Tryz.prog.wantsStandIn t = false := by
  intro t ht
  have : t = 40 ∨ t = 41 := by simpa using ht
  rcases this with rfl | rfl
  all_goals first | exact k40 | exact k41
 exact key t hm
theorem proved : Rows.JournalTellsUptoCardSaid :=
 Claim7.holds_tied_plain_at .later [] _ _ _ _ over (fun _ h => by cases h) (by kernel_rfl) (fun _ h => by cases h) journalTellsUpto_row_tie rfl ⟨rfl, rfl⟩ (by kernel_rfl) rfl plain (by kernel_rfl)
end Go.Proofs.YtkemlckmfgacdaaGreatDoor.journalTells
