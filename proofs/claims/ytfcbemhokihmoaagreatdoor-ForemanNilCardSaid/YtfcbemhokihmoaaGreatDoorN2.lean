/- For every input ForemanNil returns true, and its arguments read as before: the row and the card. No condition but the row's own: the listed variables read as laid. -/
import Derived.Test.YtfcbemhokihmoaaGreatDoorCards
import Derived.Test.YtfcbemhokihmoaaGreatDoorTie
import Derived.WalkKit
import Derived.ProofKit
import Derived.OpenShut
import Derived.Deep.DeepHandedRow
import Derived.Lib.LaidTab
import Derived.Lib.SmallJoins
import Derived.MakeChecks
import Derived.Stop.LaidErr
import Derived.Test.YtfcbemhokihmoaaGreatDoorA7
set_option linter.all false
section
namespace Go.Proofs.YtfcbemhokihmoaaGreatDoor.nilRow
open Go.ChangeShapes Go.WideShapes Go.ChangeAt Go.RowKit Go.Joins Go.Deep
set_option maxRecDepth 100000

theorem own : ownKnob Tryz.prog.godebug = none := by kernel_rfl
theorem laidOut : laidOutB Tryz.prog = true := by kernel_rfl
theorem gPow : Tryz.prog.globalNamed "internal/strconv.uint64pow10" = some 1 := by kernel_rfl
theorem cells3 : Tryz.prog.cellsOf 3 = 1 := by kernel_rfl
theorem cells25 : Tryz.prog.cellsOf 25 = 2 := by kernel_rfl
theorem cells28 : Tryz.prog.cellsOf 28 = 2 := by kernel_rfl

theorem bytes3 : Tryz.prog.bytesOf 3 = 8 := by kernel_rfl

/-- A list as the form has it. -/
theorem list_ok {W : World} {base : Nat} {v : Value} (h : Cell.okWide Tryz.prog W .any base 23 v) (hm : v = .slice none 0 0 ∨ ∃ a n c, v = .slice (some a) n c ∧ c ≤ reachBytes) : U.ListV W v := by
  rcases hm with rfl | ⟨a, n, c, rfl, hc⟩
  · exact .nil
  · have h1 : n ≤ c ∧ (c : Int) ≤ IntKind.i64.max ∧ W.has Tryz.prog .any base a 3 c := by
      simpa [Cell.okWide, Cell.ok, Tryz.underlying23] using h
    obtain ⟨h2, _, _, h3, row, cells, h4, _⟩ := h1
    obtain ⟨b, o, sp⟩ := a
    simp only at h3 h4
    subst h3
    refine .some b o n c ?_ h2 ?_
    · simp only [World.shape?] at h4
      cases hb : W.heap[b]? with
      | none => rw [hb] at h4; simp at h4
      | some x => exact (Array.getElem?_eq_some_iff.1 hb).1
    · have : reachBytes < U.HALF := by decide
      omega
/-- A struct of a kind and a list: what it is, and that its list is one. -/
theorem entry_ok {H : Type} {enc : TypeId × Value → H} {W : World} {base : Nat} {t : TypeId} {f0 f1 : Field} {v : Value} {d : DataW H} {p : List MemPlace} {ki : TypeId}
    (hu : Tryz.prog.underlying t = some (.struct #[f0, f1])) (hone : oneCellFields Tryz.prog #[f0, f1] = true) (hC : Tryz.prog.cellsOf t = 2) (h0 : f0.type = ki) (hk : Tryz.prog.underlying ki = some (.int .i64)) (h1 : f1.type = 23)
    (hct : Tryz.prog.cellTypes Tryz.prog.depth t = some [ki, 23])
    (hv : Value.okWide Tryz.prog W .any base t v) (h : DataW.Trod enc Tryz.prog W 0 (fun _ => true) true t v d p)
    (hw : ∀ n ∈ d.weights Tryz.prog t, n ≤ reachBytes) : ∃ (k : Int) (l : Value), v = .agg #[.int .i64 k, l] ∧ U.ListV W l := by
  obtain ⟨c0, c1, y0, y1, m, rfl, rfl, rfl, hy0, hy1⟩ := open_agg2 hu hone hC hv h
  rw [h0] at hy0
  rw [h1] at hy1
  obtain ⟨a, e0, hx0, wa⟩ := DataW.trod_int hk hy0
  simp at e0
  subst e0
  refine ⟨a, c1, rfl, ?_⟩
  have hcell : Cell.okWide Tryz.prog W .any base 23 c1 := by
    have hv' : ∃ cs, Value.agg #[.int .i64 a, c1] = .agg cs ∧ cs.size = Tryz.prog.cellsOf t ∧ Row.okWide Tryz.prog W .any base t cs := by
      simpa only [Value.okWide, hu] using hv
    obtain ⟨cs, hcs, _, ts, h2, _, h3⟩ := hv'
    simp only [Value.agg.injEq] at hcs
    subst hcs
    rw [hct] at h2
    simp only [Option.some.injEq] at h2
    subst h2
    obtain ⟨u, h4, h5⟩ := h3 1 c1 rfl
    simp at h4
    subst h4
    exact h5
  refine list_ok hcell ?_
  rcases open_ints Tryz.underlying23 Tryz.underlying3 cells3 hy1 with ⟨e1, _⟩ | ⟨ad, len, cap, zs, e1, _, _, _, hz, hx1, _, _⟩
  · simp at e1; exact .inl e1
  · simp at e1
    refine .inr ⟨ad, len, cap, e1, ?_⟩
    have hz' : zs.length = cap := by simpa using hz
    have := hw ((zs.take len).length * 8 + (zs.drop len).length * 8) (by
      have e2 : (zs.take len).length * 8 + (zs.drop len).length * 8 = ((lits (H := H) .i64 (zs.take len)).length + (lits (H := H) .i64 (zs.drop len)).length) * Tryz.prog.bytesOf 3 := by
        rw [bytes3]; simp [lits]; omega
      rw [e2, hx1]
      simp [DataW.weights, hu, DataW.weightsEach, h0, h1, Tryz.underlying23])
    have h2 : (zs.take len).length + (zs.drop len).length = zs.length := by simp; omega
    omega
/-- What the listed variables, and the world's shape, give the evaluator. -/
theorem gl_ok {W : World} (hL : laidMetH Tryz.prog Rows.foremanNilRow.laid W) (hS : W.ShapedOpen Tryz.prog) : U.GlOK 2 (U.glOf W) := by
  refine ⟨by decide, ?_, ?_⟩
  · obtain ⟨z, hz⟩ := laySplit.s1_3 W hS
    have hz' : W.cell? ⟨0, 0, none⟩ = some (.int .i64 z) := hz
    simp only [World.cell?] at hz'
    split at hz'
    · rename_i c T t hc
      exact ⟨c, T, t, z, hc, by simpa using hz'⟩
    · simp at hz'
  · rw [MakeChecks.laidMetH_plain _ _ _ (by kernel_rfl)] at hL
    have h2 := hL.tail.tail
    have ht : Lib.TabIs Tryz.prog W "internal/strconv.uint64pow10" .u64 Lib.pow10Tab :=
      Lib.tabIs_of_head gPow (show (Tryz.prog.globals[1]?).map (·.type) = some 431 by kernel_rfl) Tryz.underlying431 Tryz.underlying341 (show Tryz.prog.cellsOf 341 = 1 by kernel_rfl) (show Tryz.prog.cellsOf 431 = 20 by kernel_rfl) h2
    have hv : W.var? Tryz.prog "internal/strconv.uint64pow10" = some (Lib.pow10Tab.map fun z => Value.int .u64 z).toArray := ht
    simp only [World.var?, gPow, Option.bind_some] at hv
    split at hv
    · rename_i c T t hc
      simp only [Option.some.injEq] at hv
      subst hv
      exact ⟨1, T, t, gPow, by decide, hc⟩
    · simp at hv

set_option maxHeartbeats 2000000 in
/-- WHAT THE WALK GIVES, FOR EVERY ARGUMENT. -/
theorem contract (H : Type) (enc : TypeId × Value → H) (W : World) (base : Nat) (args : Array Value) (ds gs : List (DataW H)) (before : List MemPlace)
    (hval : ∀ (j : Nat) t v, Tryz.f3.params[j]? = some t → args[j]? = some v → Value.okWide Tryz.prog W .any base t v)
    (hW : DataW.Whole enc Tryz.prog Tryz.f3.params.toList Rows.foremanNilSpec.vars false W args.toList ds gs before)
    (hwt : (DataW.weightsEach Tryz.prog Tryz.f3.params.toList ds).all (· ≤ reachBytes) = true)
    (hL : laidMetH Tryz.prog Rows.foremanNilRow.laid W) (hS : W.ShapedOpen Tryz.prog) :
    Calls Tryz.prog 3 args W fun e W' => ∃ v, e = .returned v ∧ Rows.foremanNilSpec.post enc Tryz.prog Tryz.f3 false true false false W args v W' := by
  have hW' := hW
  obtain ⟨p, q, hA0, hV, rfl, hfz, hnd⟩ := hW
  have hA : DataW.TrodAll enc Tryz.prog W 0 (fun _ => true) true Tryz.f3.params.toList args.toList ds p := hA0
  rw [Tryz.params3] at hA hval hwt
  obtain ⟨v0, vs0, d0, ds0, p0, q0, hargs, rfl, rfl, h0, r0⟩ := trodAll_cons hA
  obtain ⟨v1, vs1, d1, ds1, p1, q1, rfl, rfl, rfl, h1, r1⟩ := trodAll_cons r0
  obtain ⟨rfl, rfl, rfl⟩ := trodAll_nil r1
  obtain rfl : args = #[v0, v1] := by cases args; simp_all
  obtain ⟨rfl, rfl⟩ := trodVars_none hV
  clear hA0
  simp only [List.append_nil] at hW'
  have w0 : ∀ n ∈ d0.weights Tryz.prog 25, n ≤ reachBytes := fun n hn => by
    have := List.all_eq_true.1 hwt n (DataW.weights_mem_each (j := 0) rfl rfl n hn)
    simpa using this
  have w1 : ∀ n ∈ d1.weights Tryz.prog 28, n ≤ reachBytes := fun n hn => by
    have := List.all_eq_true.1 hwt n (DataW.weights_mem_each (j := 1) rfl rfl n hn)
    simpa using this
  obtain ⟨k0, l0, rfl, hl0⟩ := entry_ok Tryz.underlying25 (by kernel_rfl) cells25 rfl Tryz.underlying22 rfl (by kernel_rfl) (hval 0 25 v0 rfl rfl) h0 w0
  obtain ⟨k1, l1, rfl, hl1⟩ := entry_ok Tryz.underlying28 (by kernel_rfl) cells28 rfl Tryz.underlying26 rfl (by kernel_rfl) (hval 1 28 v1 rfl rfl) h1 w1
  have hB : 2 ≤ W.heap.size := by
    obtain ⟨g, T, t, g1, _, g3⟩ := (gl_ok hL hS).tab
    obtain rfl := Option.some.inj (gPow.symm.trans g1)
    have := (Array.getElem?_eq_some_iff.1 (show W.heap[1]? = _ from g3)).1
    omega
  refine (U.nil_calls W hB (gl_ok hL hS) k0 k1 hl0 hl1).mono fun e W1 ⟨he, hk⟩ => ?_
  subst he
  refine ⟨_, rfl, ?_⟩
  have hb : Below W.heap.size W { W1 with tape := W.tape } := ⟨hk.os, rfl, hk.output, hk.size, hk.block⟩
  refine ChangeSpec.post_alike (W'' := { W1 with tape := W.tape }) ?_ ⟨rfl, rfl, rfl⟩
  have hlt : ∀ x ∈ p0 ++ p1, x.block < W.heap.size := fun x hx => by simpa using hW'.lt x (by simpa using hx)
  have t0 := Below.trod laidOut (by kernel_rfl) (of_decide_eq_true (by kernel_rfl)) h0 hb (fun x hx => hlt x (List.mem_append_left _ hx))
  have t1 := Below.trod laidOut (by kernel_rfl) (of_decide_eq_true (by kernel_rfl)) h1 hb (fun x hx => hlt x (List.mem_append_right _ hx))
  refine ⟨_, [], _, [], p0 ++ p1, [], hW', trodAll_cons_mk (shut_bool Tryz.underlying4 true) trodAll_mk0, ?_, rfl, hb.frame _, fun h => by cases h⟩
  rw [Tryz.params3]
  have t := trodAll_cons_mk t0 (trodAll_cons_mk t1 trodAll_mk0)
  rw [List.append_nil] at t
  exact t

/-! ### the witness -/
def flatD : Nat → DataW Unit → List Value
  | 0, _ => []
  | n + 1, d => match d with
    | .lit (.int k z) => [.int k z]
    | .agg l => l.flatMap (flatD n)
    | _ => []
def layAt (h : Array Obj) (g : Nat) (d : DataW Unit) : Array Obj := h.modify g fun
  | .cells _ t frozen => .cells (flatD 4 d).toArray t frozen
  | o => o
noncomputable def laidHeap (h : Array Obj) : Array Obj :=
  Rows.foremanNilRow.laid.foldl (fun h x => match Tryz.prog.globalNamed x.1 with
    | some g => layAt h g x.2
    | none => h) h
/-- A world for the witness. -/
noncomputable def laidWorld (os : Os) : World :=
  { World.holding Tryz.prog os ⟨#[], #[], []⟩ with heap := laidHeap (World.holding Tryz.prog os ⟨#[], #[], []⟩).heap }
abbrev args0 : Array Value := #[.agg #[.int .i64 0, .slice none 0 0], .agg #[.int .i64 0, .slice none 0 0]]
theorem laid_met (os : Os) : laidMet Tryz.prog Rows.foremanNilRow.laid ((laidWorld os).forCall (fun _ _ => 0) ⟨#[], args0, []⟩).memory :=
  laidMet_of_run' 8 (by kernel_rfl) (by kernel_rfl)
theorem reads (os : Os) {H : Type} (enc : TypeId × Value → H) : ∃ places, DataW.whole enc Tryz.prog ((laidWorld os).forCall (fun _ _ => 0) ⟨#[], args0, []⟩).memory Tryz.f3.params.toList Rows.foremanNilSpec.vars false args0.toList 8 = some ([.agg [.lit (.int .i64 0), .nil], .agg [.lit (.int .i64 0), .nil]], [], places) :=
  ⟨[], by kernel_rfl⟩
theorem lifted (os : Os) (started : os.Started) (H : Type) (enc : TypeId × Value → H) (F : Stop.Interp) :
    ReturnsInHanded {} Tryz.checked os 3 .any ((OpenSpec.ofChange Rows.foremanNilSpec).preRow enc Tryz.prog Tryz.f3 Rows.foremanNilRow.domain false Rows.foremanNilRow.laid) (((OpenSpec.ofChange Rows.foremanNilSpec).at F).post enc Tryz.prog Tryz.f3 false true false false) := by
  obtain ⟨places, hx⟩ := reads os enc
  refine returnsInHanded_of_row (C := Tryz.checked) (s := OpenSpec.ofChange Rows.foremanNilSpec) own started (by kernel_rfl) Tryz.func3
    (witness_row_at (enc := enc) (C := Tryz.checked) false (laidWorld os) args0 rfl (by kernel_rfl) (by kernel_rfl) (by kernel_rfl)
      (OpenSpec.preRow_of_cond 8 hx (by kernel_rfl) (fun k hk => by cases hk) (by kernel_rfl) (laid_met os))) ?_
  intro W base args ds gs before hval hW _ _ hwt hL hS _
  have hgs : gs = [] := by
    obtain ⟨p, q, _, hV, _⟩ := hW
    exact (trodVars_none hV).1
  subst hgs
  have hwt' : (DataW.weightsEach Tryz.prog (Tryz.f3.params.toList ++ []) (ds ++ [])).all (· ≤ reachBytes) = true := hwt
  rw [List.append_nil, List.append_nil] at hwt'
  exact contract H enc W base args ds [] before hval hW hwt' hL hS
end Go.Proofs.YtfcbemhokihmoaaGreatDoor.nilRow
end
