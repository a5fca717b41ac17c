/- Code: sound. · How functions leave; the evaluator is sound, but for regions that draw. · The orders that a region is run in; what its static check says. · An operation looks at its operands alone. · Names that are cut off; blocks that are laid out of order. · A region that draws, in the text's order: what is known of its places. · The places of a region that draws. · A region that draws: the invariant. · A region that draws: one operation more. · A region that draws: every operation that is ready does what the text's order says. · Regions that draw: sound. The evaluator is sound. -/
import Derived.Test.YtfcbemhokihmoaaGreatDoorA2
set_option linter.all false
section
namespace Go.U
set_option autoImplicit false

section steps
variable {P : Program} {b : Frame} {a : Act} {k : List Item} {cs : List Frame} {w : World}
theorem stepR_scope {c : Code} : step P (lone (b.atR a (.code (.scope c) :: k)) cs w) = .next (lone (b.atR a (.code c :: .inScope c :: k)) cs w) :=
  step_lone_go (by simp [stepG, stepG.exec, Frame.atR])
theorem stepR_inScope {c : Code} : step P (lone (b.atR a (.inScope c :: k)) cs w) = .next (lone (b.atR a k) cs w) :=
  step_lone_go (by simp [stepG, stepG.exec, Frame.atR])
end steps

/-- What is asked of regions that draw. -/
def DrawS (K : KK) (P : Program) (E : Env) (r : Rec) : Prop :=
  ∀ (c : Ctx) (id : Nat) (ops : Array Oper) (k : Nat) (us : List Nat) (s : St) (y : X) (s1 : St), regionD E r c ops.toList k us s.H.next ops.toList 0 ⟨s, [], []⟩ = some (y, s1) → regionOK ops.toList k us = true →
    CodeS K P c (.region id ops true) s y s1

section
variable {P : Program} {E : Env} {r : Rec} {B : Nat} {gl : GL}
variable (hT : TOK E.T P) (hI : EnvI P E) (hS : EnvS (KE E P B gl) P E) (hE : EnvA E) (hA : RecA r) (hr : RecS (KE E P B gl) P r) (hD : DrawS (KE E P B gl) P E r)
include hT hI hS hE hA hr hD

theorem codeF_s {ctx : Ctx} : ∀ (x : Code) (s : St) (y : X) (s1 : St), codeF E r ctx x s = some (y, s1) → KEc E P ctx.fn x → CodeS (KE E P B gl) P ctx x s y s1 := by
  have hK : ∀ f c, KEc E P f c → ∃ fn, P.funcs[f]? = some fn := fun _ _ h => h.2
  intro x
  induction x with
  | skip =>
    intro s y s1 h _ m a w b k cs hfn hro hR htm hdf hbm
    simp only [codeF, Option.some.injEq, Prod.mk.injEq] at h; obtain ⟨rfl, rfl⟩ := h
    exact ⟨m, a, w, cs, CSt.refl _ _ _ _, hR, hdf, hbm, Moved.refl hbm, htm, .one stepR_skip⟩
  | label l =>
    intro s y s1 h _ m a w b k cs hfn hro hR htm hdf hbm
    simp only [codeF, Option.some.injEq, Prod.mk.injEq] at h; obtain ⟨rfl, rfl⟩ := h
    exact ⟨m, a, w, cs, CSt.refl _ _ _ _, hR, hdf, hbm, Moved.refl hbm, htm, .one stepR_label⟩
  | ret =>
    intro s y s1 h _ m a w b k cs hfn hro hR htm hdf hbm
    simp only [codeF, Option.some.injEq, Prod.mk.injEq] at h; obtain ⟨rfl, rfl⟩ := h
    exact ⟨m, a, w, cs, CSt.refl _ _ _ _, hR, hdf, hbm, Moved.refl hbm, htm, k, .refl _ _⟩
  | exit id =>
    intro s y s1 h _ m a w b k cs hfn hro hR htm hdf hbm
    simp only [codeF, Option.some.injEq, Prod.mk.injEq] at h; obtain ⟨rfl, rfl⟩ := h
    exact ⟨m, a, w, cs, CSt.refl _ _ _ _, hR, hdf, hbm, Moved.refl hbm, htm, k, rfl, .refl _ _⟩
  | region id ops draw =>
    intro s y s1 h hk
    simp only [codeF] at h
    cases draw with
    | true =>
      simp only [cond_true] at h
      split at h
      · rename_i k us hm
        have hok := hk.1
        simp only [codeOK, cond_true, hm] at hok
        exact hD ctx id ops k us s y s1 h hok
      · simp at h
    | false =>
      simp only [cond_false] at h
      intro m a w b k cs hfn hro hR htm hdf hbm
      obtain ⟨m1, a1, w1, cs1, c1, r1, d1, b1, mv, e1⟩ := region_s hT hI hS hK hE hA hr ops.toList 0 s y s1 rfl h m a w b k cs hfn hro hR htm hdf hbm
      refine ⟨m1, a1, w1, cs1, c1, r1, d1, b1, mv, e1.of_steps (.one ?_)⟩
      have := stepR_region (P := P) (b := b) (a := a) (k := k) (cs := cs) (w := w) (ops := ops) (id := id)
      rw [List.range_eq_range'] at this
      simpa using this
  | seq c d ihc ihd =>
    intro s y s1 h hk m a w b k cs hfn hro hR htm hdf hbm
    have hk' := hk.1
    simp only [codeOK, Bool.and_eq_true] at hk'
    simp only [codeF] at h
    split at h
    · rename_i s2 h2
      obtain ⟨m1, a1, w1, cs1, c1, r1, d1, b1, mv, e1⟩ := ihc _ _ _ h2 ⟨hk'.1, hk.2⟩ m a w b (.code d :: k) cs hfn hro hR htm hdf hbm
      obtain ⟨m2, a2, w2, cs2, c2, r2, d2, b2, mv2, e2⟩ := ihd _ _ _ h ⟨hk'.2, hk.2⟩ m1 a1 w1 b k cs1 hfn (hro.mono c1.le) r1 e1.1 d1 b1
      have ha := codeF_ast hE hA _ _ _ _ h2
      have ha2 := codeF_ast hE hA _ _ _ _ h
      exact ⟨m2, a2, w2, cs2, c1.trans c2 ha.next ha2.low, r2, d2, b2, mv.trans mv2, e2.of_steps (.head stepR_seq e1.2)⟩
    · rename_i hnn
      obtain ⟨m1, a1, w1, cs1, c1, r1, d1, b1, mv, e1⟩ := ihc _ _ _ h ⟨hk'.1, hk.2⟩ m a w b (.code d :: k) cs hfn hro hR htm hdf hbm
      refine ⟨m1, a1, w1, cs1, c1, r1, d1, b1, mv, Ends.of_steps (.one stepR_seq) ?_⟩
      cases y with
      | nrm => exact absurd h (hnn s1)
      | ret => exact e1
      | exit id => obtain ⟨h1, k', h2, h3⟩ := e1; exact ⟨h1, k', h2, h3⟩
      | pan v => exact e1
  | cond x c d ihc ihd =>
    intro s y s1 h hk m a w b k cs hfn hro hR htm hdf hbm
    have hk' := hk.1
    simp only [codeOK, Bool.and_eq_true] at hk'
    simp only [codeF] at h
    split at h
    · rename_i hx
      have hv := rel_bool (opd_rel htm x _ hx)
      obtain ⟨m1, a1, w1, cs1, c1, r1, d1, b1, mv, e1⟩ := ihc _ _ _ h ⟨hk'.1, hk.2⟩ m a w b k cs hfn hro hR htm hdf hbm
      exact ⟨m1, a1, w1, cs1, c1, r1, d1, b1, mv, e1.of_steps (.one (stepR_cond hv))⟩
    · rename_i hx
      have hv := rel_bool (opd_rel htm x _ hx)
      obtain ⟨m1, a1, w1, cs1, c1, r1, d1, b1, mv, e1⟩ := ihd _ _ _ h ⟨hk'.2, hk.2⟩ m a w b k cs hfn hro hR htm hdf hbm
      exact ⟨m1, a1, w1, cs1, c1, r1, d1, b1, mv, e1.of_steps (.one (stepR_cond hv))⟩
    · simp at h
  | block id c ihc =>
    intro s y s1 h hk m a w b k cs hfn hro hR htm hdf hbm
    have hk' := hk.1
    simp only [codeOK] at hk'
    simp only [codeF] at h
    split at h
    · rename_i j s2 h2
      obtain ⟨m1, a1, w1, cs1, c1, r1, d1, b1, mv, e1⟩ := ihc _ _ _ h2 ⟨hk', hk.2⟩ m a w b (.inBlock id :: k) cs hfn hro hR htm hdf hbm
      obtain ⟨t1, k', h3, h4⟩ := e1
      cases hj : Nat.beq j id with
      | true =>
        have hj' : j = id := by simpa using hj
        subst hj'
        simp only [hj, cond_true, Option.some.injEq, Prod.mk.injEq] at h; obtain ⟨rfl, rfl⟩ := h
        exact ⟨m1, a1, w1, cs1, c1, r1, d1, b1, mv, t1, .head stepR_block (h4.trans (.one (stepR_exit (by rw [h3]; simp [exitTo]))))⟩
      | false =>
        have hj' : ¬ id = j := fun e => by subst e; simp at hj
        simp only [hj, cond_false, Option.some.injEq, Prod.mk.injEq] at h; obtain ⟨rfl, rfl⟩ := h
        exact ⟨m1, a1, w1, cs1, c1, r1, d1, b1, mv, t1, k', by rw [h3]; simp [exitTo, hj'], .head stepR_block h4⟩
    · rename_i hne
      obtain ⟨m1, a1, w1, cs1, c1, r1, d1, b1, mv, e1⟩ := ihc _ _ _ h ⟨hk', hk.2⟩ m a w b (.inBlock id :: k) cs hfn hro hR htm hdf hbm
      refine ⟨m1, a1, w1, cs1, c1, r1, d1, b1, mv, Ends.of_steps (.one stepR_block) ?_⟩
      cases y with
      | nrm => exact ⟨e1.1, e1.2.trans (.one stepR_inBlock)⟩
      | ret => exact e1
      | exit id' => exact absurd h (hne id' s1)
      | pan v => exact e1
  | scope c ihc =>
    intro s y s1 h hk m a w b k cs hfn hro hR htm hdf hbm
    have hk' := hk.1
    simp only [codeOK] at hk'
    obtain ⟨m1, a1, w1, cs1, c1, r1, d1, b1, mv, e1⟩ := ihc s y s1 h ⟨hk', hk.2⟩ m a w b (.inScope c :: k) cs hfn hro hR htm hdf hbm
    refine ⟨m1, a1, w1, cs1, c1, r1, d1, b1, mv, Ends.of_steps (.one stepR_scope) ?_⟩
    cases y with
    | nrm => exact ⟨e1.1, e1.2.trans (.one stepR_inScope)⟩
    | ret => exact e1
    | exit id => obtain ⟨h1, k', h2, h3⟩ := e1; exact ⟨h1, k', h2, h3⟩
    | pan v => exact e1
  | loop c ihc =>
    intro s y s1 h hk
    have hk' := hk.1
    simp only [codeOK] at hk'
    simp only [codeF] at h
    have key : ∀ (n : Nat) (s : St) (y : X) (s1 : St), iter (codeF E r ctx c) n s = some (y, s1) →
        ∀ (m : Ren) (a : Act) (w : World) (b : Frame) (k : List Item) (cs : List Frame), b.fn = ctx.fn → RoR m ctx.round b.roundOf → Rel (KE E P B gl) P m s.H w → VRs m s.tm a.tmps.toList → DfRs m s.df a.defers → BMR m s.bm b.kind cs →
        ∃ m1 a1 w1 cs1, CSt m w s.H.next s1.H.low m1 w1 ∧ Rel (KE E P B gl) P m1 s1.H w1 ∧ DfRs m1 s1.df a1.defers ∧ BMR m1 s1.bm b.kind cs1 ∧ Moved b.kind cs cs1 ∧ Ends P b k y m1 s1 a1 cs1 w1 (lone (b.atR a (.code c :: .inLoop c :: k)) cs w) := by
      intro n
      induction n with
      | zero => intro s y s1 h; simp [iter] at h
      | succ n ih =>
        intro s y s1 h m a w b k cs hfn hro hR htm hdf hbm
        simp only [iter] at h
        split at h
        · rename_i s2 h2
          obtain ⟨m1, a1, w1, cs1, c1, r1, d1, b1, mv, e1⟩ := ihc _ _ _ h2 ⟨hk', hk.2⟩ m a w b (.inLoop c :: k) cs hfn hro hR htm hdf hbm
          obtain ⟨m2, a2, w2, cs2, c2, r2, d2, b2, mv2, e2⟩ := ih _ _ _ h m1 a1 w1 b k cs1 hfn (hro.mono c1.le) r1 e1.1 d1 b1
          have ha := codeF_ast hE hA _ _ _ _ h2
          have ha2 := iter_ast (codeF_ast hE hA c) _ _ _ _ h
          exact ⟨m2, a2, w2, cs2, c1.trans c2 ha.next ha2.low, r2, d2, b2, mv.trans mv2, e2.of_steps (e1.2.trans (.one stepR_inLoop))⟩
        · rename_i hnn
          obtain ⟨m1, a1, w1, cs1, c1, r1, d1, b1, mv, e1⟩ := ihc _ _ _ h ⟨hk', hk.2⟩ m a w b (.inLoop c :: k) cs hfn hro hR htm hdf hbm
          refine ⟨m1, a1, w1, cs1, c1, r1, d1, b1, mv, ?_⟩
          cases y with
          | nrm => exact absurd h (hnn s1)
          | ret => exact e1
          | exit id => obtain ⟨h1, k', h2, h3⟩ := e1; exact ⟨h1, k', h2, h3⟩
          | pan v => exact e1
    intro m a w b k cs hfn hro hR htm hdf hbm
    obtain ⟨m1, a1, w1, cs1, c1, r1, d1, b1, mv, e1⟩ := key _ _ _ _ h m a w b k cs hfn hro hR htm hdf hbm
    exact ⟨m1, a1, w1, cs1, c1, r1, d1, b1, mv, e1.of_steps (.one stepR_loop)⟩
  | rangeFunc f ps asg body _ _ =>
    intro s y s1 h hk m a w b k cs hfn hro hR htm hdf hbm
    have hk' := hk.1
    simp only [codeOK, Bool.and_eq_true] at hk'
    simp only [codeF] at h
    split at h
    · rename_i fv hf
      exact rangeIn_s hS hE hA hr h ⟨hk'.1, hk.2⟩ ⟨hk'.2, hk.2⟩ hfn hro (opd_rel htm f _ hf) hR htm hdf hbm
    · simp at h
  | goto l => intro s y s1 h; simp [codeF] at h
  | refuse w => intro s y s1 h; simp [codeF] at h
end
end Go.U
end

section
namespace Go.U
set_option autoImplicit false

section
variable {K : KK} {P : Program} {E : Env} {r : Rec}

/-! ### results -/
theorem loadVar_of_load {ρ : Operand → Value} {t : TypeId} {x : Operand} {ty : TypeId} {a : Addr} {v : Value} {w : World} (hx : ρ x = .pointer (some a))
    (h : (execOp ρ ⟨none, .load t x, ty, "", #[], none⟩).run P w = .ok (.value v) w) : (loadVar t a).run P w = .ok v w := by
  simp only [execOp, Instr.loadAt, hx, Instr.sureAddr, Sem.run_bind, Sem.run_pure, Result.andThen_ok] at h
  cases hl : (loadVar t a).run P w with
  | ok v' w' => rw [hl] at h; simp at h; obtain ⟨rfl, rfl⟩ := h; rfl
  | halt x w' => rw [hl] at h; simp [Result.andThen] at h

def resV (tmps : Array Value) : ResultVar → Sem Value
  | .tmp t => pure (tmps.getD t undef)
  | .cell a t => do loadVar t (← asAddr (tmps.getD a undef))
theorem results_eq (fn : Func) (tmps : Array Value) : results fn tmps = (do let vs ← fn.results.mapM (resV tmps); pure (if h : vs.size = 1 then vs[0] else .tuple vs)) := by
  unfold results
  congr 1
theorem resL_s (hT : TOK E.T P) {m : Ren} {H : AH} {w : World} (hR : Rel K P m H w) {tm : List Value} {tmps : Array Value} (htm : TopR m tm tmps) : ∀ (l : List ResultVar) (vs : List Value), resL E tm H l = some vs →
    ∃ vs', (l.mapM (resV tmps)).run P w = .ok vs' w ∧ VRs m vs vs'
  | [], vs, h => by simp only [resL, Option.some.injEq] at h; subst h; exact ⟨[], by simp, .nil⟩
  | .tmp t :: l, vs, h => by
    simp only [resL] at h
    split at h
    · simp at h
    · rename_i vs1 hl hnv
      simp only [Option.some.injEq] at h; subst h
      obtain ⟨vs', h1, h2⟩ := resL_s hT hR htm l vs1 hl
      rcases htm t with ⟨rr, h3⟩ | h3
      · exact absurd h3 (hnv rr)
      · exact ⟨_ :: vs', by simp only [List.mapM_cons, Sem.run_bind, resV, Sem.run_pure, Result.andThen_ok, h1], .cons _ _ _ _ h3 h2⟩
    · simp at h
  | .cell c t :: l, vs, h => by
    simp only [resL] at h
    split at h
    · rename_i v vs1 hv hl
      simp only [Option.some.injEq] at h; subst h
      obtain ⟨vs', h1, h2⟩ := resL_s hT hR htm l vs1 hl
      have hv0 := hv
      simp only [readOp] at hv0
      split at hv0 <;> try (simp at hv0; done)
      rename_i b o i hp _
      simp only [opd, Option.some.injEq] at hp
      have h3 : VR m (tm.getD c undef) (tmps.getD c undef) := by
        rcases htm c with ⟨rr, h3⟩ | h3
        · rw [h3] at hp; simp at hp
        · exact h3
      -- this one temporary alone
      let e1 : Operand → Option Value := fun x => match x with | .tmp t' => bif Nat.beq t' c then some (tm.getD c undef) else none | _ => none
      let ρ1 : Operand → Value := fun _ => tmps.getD c undef
      have he : OpdR m e1 ρ1 := by
        intro x u hu
        cases x with
        | tmp t' =>
          simp only [e1] at hu
          cases hb : Nat.beq t' c with
          | true => simp only [hb, cond_true, Option.some.injEq] at hu; subst hu; exact h3
          | false => simp [hb] at hu
        | _ => simp [e1] at hu
      have hv1 : readOp E.T e1 H (.load t (.tmp c)) = some v := by
        rw [← hv]
        have hb : Nat.beq c c = true := by simp
        simp only [readOp, e1, hb, cond_true, opd]
      obtain ⟨v', h4, h5⟩ := s_load hT hR he none t (.tmp c) 0 "" #[] none v hv1
      rw [hp] at h3
      generalize hz : tmps.getD c undef = z at h3
      cases h3 with
      | ptr _ _ b' hb =>
        have h6 := loadVar_of_load (ρ := ρ1) (x := .tmp c) (a := ⟨b', o, none⟩) (by simp only [ρ1, hz]) h5
        exact ⟨v' :: vs', by simp only [List.mapM_cons, Sem.run_bind, resV, hz, asAddr, Sem.run_pure, Result.andThen_ok, h6, h1], .cons _ _ _ _ h4 h2⟩
    · simp at h

theorem resF_s (hT : TOK E.T P) {m : Ren} {H : AH} {w : World} (hR : Rel K P m H w) {tm : List Value} {tmps : Array Value} (htm : TopR m tm tmps) {fn : Func} {v : Value} (h : resF E fn tm H = some v) :
    ∃ v', (results fn tmps).run P w = .ok v' w ∧ VR m v v' := by
  simp only [resF] at h
  have hm : ∀ vs, resL E tm H fn.results.toList = some vs → ∃ vs' : Array Value, (fn.results.mapM (resV tmps)).run P w = .ok vs' w ∧ VRs m vs vs'.toList := by
    intro vs hvs
    obtain ⟨vs', h1, h2⟩ := resL_s hT hR htm _ _ hvs
    refine ⟨vs'.toArray, ?_, by simpa using h2⟩
    rw [Array.mapM_eq_mapM_toList]
    simp only [Sem.run_map]
    exact (congrArg (fun r => r.andThen fun a w' => .ok a.toArray w') h1)
  split at h
  · rename_i v0 hvs
    simp only [Option.some.injEq] at h; subst h
    obtain ⟨vs', h1, h2⟩ := hm _ hvs
    have hs : vs'.size = 1 := by have := h2.length; simpa using this
    have h0 : ∃ u, vs'.toList = [u] ∧ VR m v0 u := by
      generalize vs'.toList = l at h2
      cases h2 with
      | cons _ u _ l' h3 h4 => cases h4; exact ⟨u, rfl, h3⟩
    obtain ⟨u, h3, h4⟩ := h0
    refine ⟨u, ?_, h4⟩
    have : vs' = #[u] := by apply Array.ext'; simpa using h3
    subst this
    simp [results_eq, h1]
  · rename_i vs hne hvs
    simp only [Option.some.injEq] at h; subst h
    obtain ⟨vs', h1, h2⟩ := hm _ hvs
    have hs : vs'.size ≠ 1 := by
      intro hs
      have hl := h2.length
      have : vs.length = 1 := by have : vs'.toList.length = 1 := by simpa using hs
                                 omega
      obtain ⟨u, hu⟩ := List.length_eq_one_iff.1 this
      exact hne u hu
    refine ⟨.tuple vs', ?_, ?_⟩
    · simp [results_eq, h1, hs]
    · cases vs' with
      | mk l => exact .tuple _ _ h2
  · simp at h

/-! ### deferred calls -/
theorem settle_s {m : Ren} {bm : BM} {u : FrameMode} (h : BMu m bm u) : BMu m (settleB bm) (settle u) := by
  cases bm with
  | no => exact h.elim
  | ret => simp only [BMu] at h; subst h; rfl
  | pan v rr =>
    obtain ⟨v', h1, rfl⟩ := h
    cases rr with
    | true => simp [settleB, settle, BMu]
    | false => exact ⟨v', h1, by simp [settle]⟩

theorem leave_s (hA : RecA r) (hr : RecS K P r) : ∀ (l : List Df) (bm : BM) (H : AH) (bm1 : BM) (H1 : AH), leave r l bm H = some (bm1, H1) →
    ∀ (m : Ren) (w : World) (fr : Frame) (cs : List Frame), DfRs m l fr.defers → BMu m bm fr.mode → Rel K P m H w →
    ∃ m1 w1 u, Steps P (lone fr cs w) (lone { fr with defers := [], mode := u } cs w1) ∧ BMu m1 bm1 u ∧ Rel K P m1 H1 w1 ∧ CSt m w H.next H1.low m1 w1
  | [], bm, H, bm1, H1, h, m, w, fr, cs, hdf, hb, hR => by
    simp only [leave, Option.some.injEq, Prod.mk.injEq] at h; obtain ⟨rfl, rfl⟩ := h
    have hd : fr.defers = [] := by generalize fr.defers = l at hdf; cases hdf; rfl
    refine ⟨m, w, fr.mode, ?_, hb, hR, CSt.refl _ _ _ _⟩
    have : ({ fr with defers := [], mode := fr.mode } : Frame) = fr := by cases fr; simp at hd; subst hd; rfl
    rw [this]; exact .refl _ _
  | .mark b :: l, bm, H, bm1, H1, h, m, w, fr, cs, hdf, hb, hR => by
    simp only [leave] at h
    split at h <;> try (simp at h; done)
    rename_i hget
    obtain ⟨ds, b', hd, hbb, hdf'⟩ : ∃ ds b', fr.defers = { target := .collected b', args := #[] } :: ds ∧ m.ρ b = some b' ∧ DfRs m l ds := by
      generalize fr.defers = dd at hdf
      cases hdf with
      | mark _ b' _ l' h1 h2 => exact ⟨l', b', rfl, h1, h2⟩
    obtain ⟨o1, hw1, ho1⟩ := hR.obj b b' _ hbb hget
    cases ho1 with
    | dopen =>
      have hp := hR.putObj hbb hget (by simp) (by simp) (o := .dblk false) (o' := .deferred none) .dshut
      have hst : step P (lone fr cs w) = .next (lone { fr with defers := ds } cs (World.putO w b' (.deferred none))) := by
        refine step_lone_go ?_
        have hrun : (Instr.takeDeferred b').run P w = .ok [] (World.putO w b' (.deferred none)) := by
          simp [Instr.takeDeferred, getObj, setObj, Sem.run, hw1, World.putO]
        cases hm : fr.mode with
        | run => rw [hm] at hb; cases bm <;> simp [BMu] at hb
        | returning => simp [stepG, unwind, hm, hd, Sem.runT_eq, hrun]
        | panicking ch => simp [stepG, unwind, hm, hd, Sem.runT_eq, hrun]
      obtain ⟨m1, w1, u, h1, h2, h3, h4⟩ := leave_s hA hr l bm _ bm1 H1 h m _ { fr with defers := ds } cs hdf' hb hp.1
      have hl := leave_ast hA _ _ _ _ _ h
      exact ⟨m1, w1, u, .head hst h1, h2, h3, hp.2.trans h4 (Nat.le_refl _) hl.low⟩
  | .fn f args :: l, bm, H, bm1, H1, h, m, w, fr, cs, hdf, hb, hR => by
    simp only [leave] at h
    split at h <;> try (simp at h; done)
    rename_i bm2 H2 hc
    obtain ⟨ds, aa, cap, hd, hall, hdf'⟩ : ∃ (ds : List Deferred) (aa cap : Array Value), fr.defers = { target := .fn (.func f) cap, args := aa } :: ds ∧ VRs m args (aa ++ cap).toList ∧ DfRs m l ds := by
      generalize fr.defers = dd at hdf
      cases hdf with
      | fn _ _ a cap _ l' h1 h2 => exact ⟨l', a, cap, rfl, h1, h2⟩
    obtain ⟨hcf, hcd⟩ := hr.callD _ _ _ _ _ _ hc m w (aa ++ cap) fr.mode hR hall hb
    have hrun : fr.mode ≠ .run := fun e => by rw [e] at hb; cases bm <;> simp [BMu] at hb
    have h1 := Go.step_defer (P := P) (cs := cs) (f := f) (args := aa ++ cap) hrun hd rfl (by simpa [invoke] using hcf)
    obtain ⟨en, u', w2, frX, ⟨m2, v', hen, r2, c2, b2⟩, hsteps, hkX, hgo⟩ := hcd { fr with defers := ds } cs rfl
    subst hen
    have h2 := step_going_returned (c := { { fr with defers := ds } with mode := u' }) (cs := cs) hkX hgo
    obtain ⟨m3, w3, u3, h3, h4, h5, h6⟩ := leave_s hA hr l (settleB bm2) H2 bm1 H1 h m2 w2 { { fr with defers := ds } with mode := settle u' } cs (hdf'.mono c2.le) (settle_s b2) r2
    have ha := hA.callD _ _ _ _ _ _ hc
    have hl := leave_ast hA _ _ _ _ _ h
    exact ⟨m3, w3, u3, .head h1 (Steps.trans hsteps (.head h2 h3)), h4, h5, c2.trans h6 ha.next hl.low⟩
end

/-! ### functions -/
/-- What the tables say of functions. -/
def FOK (E : Env) (P : Program) : Prop := ∀ f fn, E.F.get f = some fn → P.funcs[f]? = some fn ∧ fn.name ≠ "runtime.NumGoroutine" ∧ ∀ c, fn.body = some c → codeOK E f c = true

section
variable {P : Program} {E : Env} {r : Rec} {B : Nat} {gl : GL}
variable (hT : TOK E.T P) (hI : EnvI P E) (hS : EnvS (KE E P B gl) P E) (hE : EnvA E) (hF : FOK E P) (hA : RecA r) (hr : RecS (KE E P B gl) P r) (hD : DrawS (KE E P B gl) P E r)
include hT hI hS hE hF hA hr hD

theorem tmps0_rel {m : Ren} {args : List Value} {args' : Array Value} (h : VRs m args args'.toList) (n : Nat) : VRs m (tmps0 n args) (args' ++ Array.replicate (n - args'.size) undef).toList := by
  have hl : args'.size = args.length := by have := h.length; simpa using this
  rw [Array.toList_append, Array.toList_replicate, hl]
  exact h.append (VRs.replicate (VR.undef m) _)

/-- A function's body is run, up to its end. -/
theorem body_s {f : FuncId} {args : List Value} {bm : BM} {H : AH} {e : AEnd} {bm1 : BM} {H1 : AH} (h : bodyF E r f args bm H = some (e, bm1, H1)) {m : Ren} {w : World} {args' : Array Value}
    (hR : Rel (KE E P B gl) P m H w) (ha : VRs m args args'.toList) {kind : CallKind} {cs : List Frame} (hbm : BMR m bm kind cs) :
    ∃ (fn : Func) (m1 : Ren) (w1 : World) (cs1 : List Frame) (fr : Frame), P.funcs[f]? = some fn ∧ (∀ w, (callFunc f args').run P w = .ok (.enter f args') w) ∧
      Steps P (lone (Frame.enter P f args' kind) cs w) (lone fr cs1 w1) ∧ fr.fn = f ∧ fr.kind = kind ∧ fr.defers = [] ∧ Moved kind cs cs1 ∧ BMR m1 bm1 kind cs1 ∧ Rel (KE E P B gl) P m1 H1 w1 ∧ CSt m w H.next H1.low m1 w1 ∧
      (match e with
      | .ret v => ∃ v', VR m1 v v' ∧ fr.mode = .returning ∧ (results fn fr.tmps).run P w1 = .ok v' w1
      | .pan v => ∃ v', VR m1 v v' ∧ fr.mode = .panicking [{ v := v', recovered := false }]) := by
  simp only [bodyF] at h
  split at h <;> try (simp at h; done)
  rename_i fn hfn
  obtain ⟨hf, hname, hok⟩ := hF f fn hfn
  split at h <;> try (simp at h; done)
  rename_i c hc
  split at h <;> try (simp at h; done)
  rename_i x s hcode
  have hcall : ∀ w, (callFunc f args').run P w = .ok (.enter f args') w := by
    intro w
    simp [callFunc, hf, hname, hc]
  let b : Frame := { (default : Frame) with fn := f, kind := kind, roundOf := none }
  let a0 : Act := { tmps := args' ++ Array.replicate (fn.ntmps - args'.size) undef, defers := [] }
  have henter : Frame.enter P f args' kind = b.atR a0 [.code c] := by simp [Frame.enter, Frame.atR, hf, hc, b, a0]
  obtain ⟨m1, a1, w1, cs1, c1, r1, d1, b1, mv, e1⟩ := codeF_s hT hI hS hE hA hr hD c _ x s hcode ⟨hok c hc, fn, hf⟩ m a0 w b [] cs rfl trivial hR (tmps0_rel hT hI hS hE hF hA hr hD ha fn.ntmps) .nil hbm
  have hast := codeF_ast hE hA _ _ _ _ hcode
  -- the frame on its way out
  have out : ∃ fr bm0, Steps P (lone (Frame.enter P f args' kind) cs w) (lone fr cs1 w1) ∧ fr.fn = f ∧ fr.kind = kind ∧ fr.defers = a1.defers ∧ fr.tmps = a1.tmps ∧ BMu m1 bm0 fr.mode ∧ TopR m1 s.tm a1.tmps ∧
      (leaveX r s.df s.H x = leave r s.df bm0 s.H ∨ leaveX r s.df s.H x = none) := by
    cases x with
    | nrm => exact ⟨{ b.atR a1 [] with mode := .returning }, .ret, by rw [henter]; exact e1.2.trans (.one (stepR_end rfl)), rfl, rfl, rfl, rfl, rfl, e1.1.top, .inl rfl⟩
    | ret =>
      obtain ⟨t1, k', h2⟩ := e1
      exact ⟨{ b.atR a1 (.code .ret :: k') with mode := .returning }, .ret, by rw [henter]; exact h2.trans (.one (stepR_ret rfl)), rfl, rfl, rfl, rfl, rfl, t1.top, .inl rfl⟩
    | exit id => simp [leaveX] at h
    | pan v =>
      obtain ⟨t1, todo, v', hv, h2⟩ := e1
      exact ⟨{ b.atR a1 todo with mode := .panicking [{ v := v', recovered := false }] }, .pan v false, by rw [henter]; exact h2, rfl, rfl, rfl, rfl, ⟨v', hv, rfl⟩, t1, .inl rfl⟩
  obtain ⟨fr, bm0, o1, o2, o3, o4, o5, o6, o7, o8⟩ := out
  have go : ∀ bmx H2, leave r s.df bm0 s.H = some (bmx, H2) → ∃ m2 w2 u, Steps P (lone (Frame.enter P f args' kind) cs w) (lone { fr with defers := [], mode := u } cs1 w2) ∧ BMu m2 bmx u ∧ Rel (KE E P B gl) P m2 H2 w2 ∧ CSt m w H.next H2.low m2 w2 ∧ m1.Le m2 := by
    intro bmx H2 hl
    obtain ⟨m2, w2, u, l1, l2, l3, l4⟩ := leave_s hA hr _ _ _ _ _ hl m1 w1 fr cs1 (by rw [o4]; exact d1) o6 r1
    exact ⟨m2, w2, u, o1.trans l1, l2, l3, c1.trans l4 hast.next (leave_ast hA _ _ _ _ _ hl).low, l4.le⟩
  split at h
  · rename_i H2 hl
    rcases o8 with o8 | o8
    · rw [o8] at hl
      obtain ⟨m2, w2, u, g1, g2, g3, g4, g5⟩ := go _ _ hl
      split at h <;> try (simp at h; done)
      rename_i v hv
      simp only [Option.some.injEq, Prod.mk.injEq] at h; obtain ⟨rfl, rfl, rfl⟩ := h
      obtain ⟨v', h1, h2⟩ := resF_s hT g3 (fun t => (o7 t).imp id (fun h => h.mono g5)) hv
      simp only [BMu] at g2
      exact ⟨fn, m2, w2, cs1, _, hf, hcall, g1, o2, o3, rfl, mv, b1.mono g5, g3, g4, v', h2, g2, by rw [← o5] at h1; exact h1⟩
    · rw [o8] at hl; simp at hl
  · rename_i v H2 hl
    rcases o8 with o8 | o8
    · rw [o8] at hl
      obtain ⟨m2, w2, u, g1, g2, g3, g4, g5⟩ := go _ _ hl
      simp only [Option.some.injEq, Prod.mk.injEq] at h; obtain ⟨rfl, rfl, rfl⟩ := h
      obtain ⟨v', h1, h2⟩ := g2
      exact ⟨fn, m2, w2, cs1, _, hf, hcall, g1, o2, o3, rfl, mv, b1.mono g5, g3, g4, v', h1, h2⟩
    · rw [o8] at hl; simp at hl
  · simp at h
end

/-- THE EVALUATOR IS SOUND. -/
theorem ev_s {P : Program} {E : Env} {B : Nat} {gl : GL} (hT : TOK E.T P) (hI : EnvI P E) (hS : EnvS (KE E P B gl) P E) (hE : EnvA E) (hF : FOK E P) (hD : ∀ r, RecA r → RecS (KE E P B gl) P r → DrawS (KE E P B gl) P E r) : ∀ n, RecS (KE E P B gl) P (ev E n)
  | 0 => ⟨fun _ _ _ _ _ h => by simp [ev] at h, fun _ _ _ _ _ _ h => by simp [ev] at h, fun _ _ _ _ _ h => by simp [ev] at h⟩
  | n + 1 => by
    have ih := ev_s hT hI hS hE hF hD n
    have hA := ev_ast hE n
    have hd := hD _ hA ih
    refine ⟨fun f args H e H1 h m w args' hR ha => ?_, fun f args bm H bm1 H1 h m w args' u hR ha hb => ?_, fun c x s y s1 h hk => codeF_s hT hI hS hE hA ih hd _ _ _ _ h hk⟩
    · simp only [ev] at h
      split at h <;> try (simp at h; done)
      rename_i e2 bm2 H2 h2
      simp only [Option.some.injEq, Prod.mk.injEq] at h; obtain ⟨rfl, rfl⟩ := h
      have hc : ∀ w, (callFunc f args').run P w = .ok (.enter f args') w := by
        obtain ⟨fn, _, _, _, _, _, h, _⟩ := body_s hT hI hS hE hF hA ih hd h2 hR ha (.no [])
        exact h
      refine .inl ⟨hc w, fun cs => ?_⟩
      obtain ⟨fn, m1, w1, cs1, fr, q1, _, q3, q4, q5, q6, q7, q8, q9, q10, q11⟩ := body_s hT hI hS hE hF hA ih hd h2 hR ha (.no cs)
      cases q7
      cases e2 with
      | ret v =>
        obtain ⟨v', h3, h4, h5⟩ := q11
        exact ⟨.returned v', w1, fr, ⟨m1, q9, q10, h3⟩, q3, q4, h4, q6, q5, fn, by rw [q4]; exact q1, h5⟩
      | pan v =>
        obtain ⟨v', h3, h4⟩ := q11
        exact ⟨.panicked [{ v := v', recovered := false }], w1, fr, ⟨m1, q9, q10, v', h3, rfl⟩, q3, q4, h4, q6, fn, by rw [q4]; exact q1⟩
    · simp only [ev] at h
      split at h <;> try (simp at h; done)
      rename_i v2 bm2 H2 h2
      simp only [Option.some.injEq, Prod.mk.injEq] at h; obtain ⟨rfl, rfl⟩ := h
      have hc : ∀ w, (callFunc f args').run P w = .ok (.enter f args') w := by
        let c0 : Frame := { (default : Frame) with mode := u }
        obtain ⟨fn, _, _, _, _, _, h, _⟩ := body_s hT hI hS hE hF hA ih hd h2 hR ha (.d bm c0 [] hb)
        exact h
      refine ⟨hc w, fun c cs hcu => ?_⟩
      obtain ⟨fn, m1, w1, cs1, fr, q1, _, q3, q4, q5, q6, q7, q8, q9, q10, v', h3, h4, h5⟩ := body_s hT hI hS hE hF hA ih hd h2 hR ha (.d bm c cs (by rw [hcu]; exact hb))
      cases q7 with
      | d _ _ u' =>
        rcases q8.inv with ⟨_, hx⟩ | ⟨_, c', rest', hcc, hu⟩
        · simp at hx
        · simp only [List.cons.injEq] at hcc; obtain ⟨rfl, rfl⟩ := hcc
          exact ⟨.returned v', u', w1, fr, ⟨m1, v', rfl, q9, q10, hu⟩, q3, q5, h4, q6, fn, by rw [q4]; exact q1, h5⟩
end Go.U
end

section
namespace Go.U
set_option autoImplicit false

/-! ### orders -/
theorem filter_lt {α : Type} (p q : α → Bool) (x : α) : ∀ (l : List α), (∀ y ∈ l, q y = true → p y = true) → x ∈ l → p x = true → q x = false → (l.filter q).length < (l.filter p).length
  | [], _, h, _, _ => by simp at h
  | y :: l, hi, hx, hp, hq => by
    have hle : ∀ (l : List α), (∀ y ∈ l, q y = true → p y = true) → (l.filter q).length ≤ (l.filter p).length := by
      intro l
      induction l with
      | nil => intro _; simp
      | cons z l ih =>
        intro hi
        have h1 := ih fun y hy => hi y (by simp [hy])
        have h2 := hi z (by simp)
        cases hq : q z <;> cases hp : p z <;> simp [hq, hp] <;> first | omega | (simp [hq, hp] at h2)
    rcases List.mem_cons.1 hx with rfl | hx
    · have := hle l fun y hy => hi y (by simp [hy])
      simp [hp, hq]; omega
    · have h1 := filter_lt p q x l (fun y hy => hi y (by simp [hy])) hx hp hq
      have h2 := hi y (by simp)
      cases hq' : q y <;> cases hp' : p y <;> simp [hq', hp'] <;> first | omega | (simp [hq', hp'] at h2)

/-- How many are still to be run. -/
def left (n : Nat) (listed : Array Bool) : Nat := ((List.range n).filter fun i => !listed.getD i true).length
theorem left_lt {n : Nat} {listed : Array Bool} {i : Nat} (hi : i < n) (hl : listed.getD i true = false) : left n (listed.setIfInBounds i true) < left n listed := by
  refine filter_lt _ _ i _ ?_ (by simpa using hi) (by simp [hl]) ?_
  · intro y _ hy
    by_cases h : i = y
    · subst h; rw [hl]; rfl
    · simpa [Array.getD_eq_getD_getElem?, Array.getElem?_setIfInBounds_ne h] using hy
  · have : i < listed.size := by
      rcases Nat.lt_or_ge i listed.size with h | h
      · exact h
      · rw [Array.getD_eq_getD_getElem?, Array.getElem?_eq_none h] at hl; simp at hl
    simp [Array.getD_eq_getD_getElem?, this]
theorem left_zero {n : Nat} {listed : Array Bool} (h : left n listed = 0) : ∀ i, i < n → listed.getD i true = true := by
  intro i hi
  simp only [left, List.length_eq_zero_iff, List.filter_eq_nil_iff] at h
  have := h i (by simpa using hi)
  simpa using this

/-- What is next in an order. -/
theorem go_cases (ops : Array Oper) (fuel t : Nat) (listed : Array Bool) (hf : left ops.size listed ≤ fuel) (hb : ∀ (j : Nat) (o : Oper), ops[j]? = some o → ∀ e ∈ o.after.toList, Region.binds .any e = true → e.on < j) :
    (Region.linearise.go .any ops fuel t listed [] = [] ∧ ∀ i, i < ops.size → listed.getD i true = true) ∨
    ∃ i fuel' t', Region.linearise.go .any ops fuel t listed [] = i :: Region.linearise.go .any ops fuel' t' (listed.setIfInBounds i true) [] ∧ i < ops.size ∧ listed.getD i true = false ∧
      (∀ o, ops[i]? = some o → ∀ e ∈ o.after.toList, Region.binds .any e = true → listed.getD e.on false = true) ∧ left ops.size (listed.setIfInBounds i true) ≤ fuel' := by
  have hr : ∀ i, i ∈ Region.ready .any ops listed ↔ i < ops.size ∧ listed.getD i true = false ∧ ((ops[i]?).map (·.after.all fun e => !Region.binds .any e || listed.getD e.on false)).getD false = true := by
    intro i
    simp [Region.ready, and_assoc]
  cases fuel with
  | zero => exact .inl ⟨rfl, left_zero (by omega)⟩
  | succ fuel =>
    have hgo : Region.linearise.go .any ops (fuel + 1) t listed [] = (match (Region.ready .any ops listed)[t % (Region.ready .any ops listed).length]? with
      | some i => Region.linearise.go .any ops fuel (t / (Region.ready .any ops listed).length) (listed.setIfInBounds i true) [i]
      | none => [].reverse) := by simp only [Region.linearise.go]; rfl
    cases hi : (Region.ready .any ops listed)[t % (Region.ready .any ops listed).length]? with
    | none =>
      left
      have hnil : Region.ready .any ops listed = [] := by
        cases hr : Region.ready .any ops listed with
        | nil => rfl
        | cons x xs =>
          rw [hr] at hi
          have hlt : t % (x :: xs).length < (x :: xs).length := Nat.mod_lt _ (by simp)
          rw [List.getElem?_eq_none_iff] at hi
          omega
      rw [hi] at hgo
      refine ⟨by rw [hgo]; rfl, ?_⟩
      intro i
      induction i using Nat.strongRecOn with
      | _ i ih =>
        intro hin
        cases hl : listed.getD i true with
        | true => rfl
        | false =>
          exfalso
          have : i ∈ Region.ready .any ops listed := by
            rw [hr]
            refine ⟨hin, hl, ?_⟩
            obtain ⟨o, ho⟩ : ∃ o, ops[i]? = some o := ⟨ops[i], by simp [hin]⟩
            rw [ho]
            simp only [Option.map_some, Option.getD_some, Array.all_eq_true']
            intro e he
            cases hbb : Region.binds .any e with
            | false => simp
            | true =>
              have hlt := hb i o ho e (by simpa using he) hbb
              have hlt' : e.on < ops.size := by omega
              have := ih e.on hlt hlt'
              -- listed there
              have h2 : listed.getD e.on false = true := by
                rw [Array.getD_eq_getD_getElem?] at this ⊢
                cases hx : listed[e.on]? with
                | some b => rw [hx] at this; simpa using this
                | none =>
                  exfalso
                  rw [Array.getElem?_eq_none_iff] at hx
                  have : listed.getD i true = true := by rw [Array.getD_eq_getD_getElem?, Array.getElem?_eq_none (by omega)]; rfl
                  rw [hl] at this; simp at this
              simp [h2]
          rw [hnil] at this
          simp at this
    | some i =>
      right
      have hmem := List.mem_of_getElem? hi
      obtain ⟨h1, h2, h3⟩ := (hr i).1 hmem
      rw [hi] at hgo
      refine ⟨i, fuel, t / (Region.ready .any ops listed).length, ?_, h1, h2, ?_, ?_⟩
      · rw [hgo]
        simp only
        rw [linearise_go_acc, List.reverse_singleton, List.singleton_append]
      · intro o ho e he hbb
        rw [ho] at h3
        simp only [Option.map_some, Option.getD_some, Array.all_eq_true'] at h3
        have := h3 e (by simpa using he)
        simpa [hbb] using this
      · have := left_lt h1 h2; omega

/-! ### what comes before -/
theorem bef1_bit (acc : List Nat) (i : Nat) : ∀ (es : List Edge) (s : Nat), (bef1 acc es s).testBit i = true → s.testBit i = true ∨ ∃ e ∈ es, Region.binds .any e = true ∧ (e.on = i ∨ (acc.getD e.on 0).testBit i = true)
  | [], s, h => .inl h
  | e :: es, s, h => by
    simp only [bef1] at h
    rcases bef1_bit acc i es _ h with h1 | ⟨e', h1, h2, h3⟩
    · cases hb : Region.binds .any e with
      | false => rw [hb] at h1; exact .inl h1
      | true =>
        rw [hb] at h1
        simp only [cond_true, Nat.testBit_or, Bool.or_eq_true] at h1
        rcases h1 with h1 | h1 | h1
        · exact .inl h1
        · rw [Nat.testBit_two_pow] at h1
          exact .inr ⟨e, by simp, hb, .inl (by simpa using h1)⟩
        · exact .inr ⟨e, by simp, hb, .inr h1⟩
    · exact .inr ⟨e', by simp [h1], h2, h3⟩
theorem befs_prefix : ∀ (l : List Oper) (acc : List Nat), ∃ t, befs l acc = acc ++ t
  | [], acc => ⟨[], by simp [befs]⟩
  | o :: l, acc => by
    obtain ⟨t, ht⟩ := befs_prefix l (acc ++ [bef1 acc o.after.toList 0])
    exact ⟨bef1 acc o.after.toList 0 :: t, by simp [befs, ht]⟩
theorem befs_get : ∀ (l : List Oper) (acc : List Nat) (j : Nat) (o : Oper), l[j]? = some o → ∃ acc', (befs l acc).getD (acc.length + j) 0 = bef1 acc' o.after.toList 0 ∧ acc'.length = acc.length + j ∧ ∃ t, befs l acc = acc' ++ t
  | [], acc, j, o, h => by simp at h
  | o' :: l, acc, 0, o, h => by
    simp at h; subst h
    obtain ⟨t, ht⟩ := befs_prefix l (acc ++ [bef1 acc o'.after.toList 0])
    refine ⟨acc, ?_, rfl, bef1 acc o'.after.toList 0 :: t, by simp [befs, ht]⟩
    simp [befs, ht, List.getD_eq_getElem?_getD]
  | o' :: l, acc, j + 1, o, h => by
    have h' : l[j]? = some o := by simpa using h
    obtain ⟨acc', h1, h2, t, h3⟩ := befs_get l (acc ++ [bef1 acc o'.after.toList 0]) j o h'
    refine ⟨acc', ?_, by simp at h2; omega, t, by simp [befs, h3]⟩
    have : acc.length + (j + 1) = (acc ++ [bef1 acc o'.after.toList 0]).length + j := by simp; omega
    rw [this, ← h1]; rfl

/-- Who comes before one that was run was run. -/
theorem closed_bit {ops : List Oper} {S : Nat → Prop} (hS : ∀ j o, ops[j]? = some o → S j → ∀ e ∈ o.after.toList, Region.binds .any e = true → S e.on) :
    ∀ (j : Nat) (o : Oper), ops[j]? = some o → S j → ∀ i, ((befs ops []).getD j 0).testBit i = true → S i := by
  intro j
  induction j using Nat.strongRecOn with
  | _ j ih =>
    intro o ho hj i hi
    obtain ⟨acc', h1, h2, t, h3⟩ := befs_get ops [] j o ho
    simp only [List.length_nil, Nat.zero_add] at h1 h2
    rw [h1] at hi
    rcases bef1_bit acc' i _ _ hi with h4 | ⟨e, h4, h5, h6⟩
    · simp at h4
    · have hon := hS j o ho hj e h4 h5
      rcases h6 with rfl | h6
      · exact hon
      · have hlt : e.on < j := by
          rcases Nat.lt_or_ge e.on j with h | h
          · exact h
          · rw [List.getD_eq_getElem?_getD, List.getElem?_eq_none (by omega)] at h6; simp at h6
        have hl : j < ops.length := (List.getElem?_eq_some_iff.1 ho).1
        obtain ⟨o', ho'⟩ : ∃ o', ops[e.on]? = some o' := ⟨ops[e.on], by simp [Nat.lt_trans hlt hl]⟩
        refine ih e.on hlt o' ho' hon i ?_
        rw [h3, List.getD_eq_getElem?_getD, List.getElem?_append_left (by omega), ← List.getD_eq_getElem?_getD]
        exact h6

/-! ### the check -/
theorem infos_get (ops : List Oper) (k : Nat) (us : List Nat) (B : List Nat) : ∀ (l : List Oper) (i0 j : Nat) (o : Oper), l[j]? = some o →
    (infos ops k us B l i0)[j]? = some ⟨o, i0 + j, cls k (i0 + j) o.op, namesOf ops o, B.getD (i0 + j) 0, us.getD (i0 + j) 0⟩
  | [], _, _, _, h => by simp at h
  | o' :: l, i0, 0, o, h => by simp at h; subst h; simp [infos]
  | o' :: l, i0, j + 1, o, h => by
    have h' : l[j]? = some o := by simpa using h
    have := infos_get ops k us B l (i0 + 1) j o h'
    simp only [infos, List.getElem?_cons_succ]
    rw [this]
    have e : i0 + 1 + j = i0 + (j + 1) := by omega
    rw [e]
theorem pairs_get (l : List OpI) (h : pairsI l = true) (i j : Nat) (a b : OpI) (hij : i < j) (ha : l[i]? = some a) (hb : l[j]? = some b) : pairI a b = true := by
  induction l generalizing i j with
  | nil => simp at ha
  | cons x l ih =>
    have h1 : l.all (pairI x) = true ∧ pairsI l = true := by rw [pairsI, Bool.and_eq_true] at h; exact h
    cases j with
    | zero => omega
    | succ j =>
      rw [List.getElem?_cons_succ] at hb
      cases i with
      | zero =>
        rw [List.getElem?_cons_zero, Option.some.injEq] at ha
        subst ha
        exact List.all_eq_true.1 h1.1 b (List.mem_of_getElem? hb)
      | succ i =>
        rw [List.getElem?_cons_succ] at ha
        exact ih h1.2 i j (by omega) ha hb
theorem memN_iff (b : Nat) : ∀ l : List Nat, memN b l = true ↔ b ∈ l
  | [] => by simp [memN]
  | c :: l => by
    simp only [memN]
    cases h : Nat.beq b c with
    | true => have : b = c := by simpa using h
              simp [this]
    | false => have : b ≠ c := fun e => by subst e; simp at h
               simp [this, memN_iff b l]

structure ROK (ops : List Oper) (k : Nat) (us : List Nat) : Prop where
  edge : ∀ (j : Nat) (o : Oper), ops[j]? = some o → ∀ e ∈ o.after.toList, Region.binds .any e = true → e.on < j
  kind : ∀ (j : Nat) (o : Oper), ops[j]? = some o → cls k j o.op ≠ 7
  dst : ∀ (i j : Nat) (a b : Oper), i < j → ops[i]? = some a → ops[j]? = some b → ∀ t, a.dst = some t → b.dst ≠ some t
  pair : ∀ (i j : Nat) (a b : Oper), i < j → ops[i]? = some a → ops[j]? = some b → ((befs ops []).getD j 0).testBit i = true ∨
    (pairOK (cls k i a.op) (cls k j b.op) ((us.getD i 0).testBit j) ((us.getD j 0).testBit i) = true ∧ (∀ t, a.dst = some t → t ∉ namesOf ops b) ∧ (∀ t, b.dst = some t → t ∉ namesOf ops a))
theorem regionOK_spec {ops : List Oper} {k : Nat} {us : List Nat} (h : regionOK ops k us = true) : ROK ops k us := by
  simp only [regionOK, Bool.and_eq_true, List.all_eq_true] at h
  obtain ⟨h1, h2⟩ := h
  have hget : ∀ (j : Nat) (o : Oper), ops[j]? = some o → (infos ops k us (befs ops []) ops 0)[j]? = some ⟨o, j, cls k j o.op, namesOf ops o, (befs ops []).getD j 0, us.getD j 0⟩ := fun j o ho => by
    have := infos_get ops k us (befs ops []) ops 0 j o ho
    simpa using this
  have hone : ∀ (j : Nat) (o : Oper), ops[j]? = some o → cls k j o.op ≠ 7 ∧ ∀ e ∈ o.after.toList, Region.binds .any e = true → e.on < j := by
    intro j o ho
    have := h1 _ (List.mem_of_getElem? (hget j o ho))
    simp only [oneI, Bool.and_eq_true, List.all_eq_true] at this
    refine ⟨fun e => ?_, fun e he hb => ?_⟩
    · have h3 := this.1
      rw [e] at h3
      simp at h3
    · have h3 := this.2 e he
      rw [hb] at h3
      simp only [Bool.not_true, Bool.false_or] at h3
      exact blt_t h3
  have hpair : ∀ (i j : Nat) (a b : Oper), i < j → ops[i]? = some a → ops[j]? = some b →
      pairI ⟨a, i, cls k i a.op, namesOf ops a, (befs ops []).getD i 0, us.getD i 0⟩ ⟨b, j, cls k j b.op, namesOf ops b, (befs ops []).getD j 0, us.getD j 0⟩ = true := fun i j a b hij ha hb => pairs_get _ h2 i j _ _ hij (hget i a ha) (hget j b hb)
  have hap : ∀ (d : Option Tmp) (l : List Tmp), apart1 d l = true → ∀ t, d = some t → t ∉ l := by
    intro d l hd t ht hm
    subst ht
    simp only [apart1] at hd
    rw [(memN_iff t l).2 hm] at hd
    simp at hd
  refine ⟨fun j o ho => (hone j o ho).2, fun j o ho => (hone j o ho).1, fun i j a b hij ha hb t hta htb => ?_, fun i j a b hij ha hb => ?_⟩
  · have := hpair i j a b hij ha hb
    simp only [pairI, Bool.and_eq_true] at this
    have h3 := this.1
    rw [hta, htb] at h3
    simp [distinct] at h3
  · have := hpair i j a b hij ha hb
    simp only [pairI, Bool.and_eq_true, Bool.or_eq_true] at this
    rcases this.2 with h3 | ⟨⟨h3, h4⟩, h5⟩
    · exact .inl h3
    · exact .inr ⟨h3, hap _ _ h4, hap _ _ h5⟩
end Go.U
end

section
namespace Go.U
set_option autoImplicit false

theorem ops1_congr {e e' : Operand → Option Value} : ∀ (l : List Operand), (∀ x ∈ l, e x = e' x) → ops1 e l = ops1 e' l
  | [], _ => rfl
  | x :: l, h => by simp only [ops1]; rw [h x (by simp), ops1_congr l fun y hy => h y (by simp [hy])]
theorem parts1_congr {e e' : Operand → Option Value} : ∀ (l : List (Nat × Operand)), (∀ x ∈ l.map (·.2), e x = e' x) → parts1 e l = parts1 e' l
  | [], _ => rfl
  | (i, x) :: l, h => by simp only [parts1]; rw [h x (by simp), parts1_congr l fun y hy => h y (by simp at hy ⊢; exact .inr hy)]
theorem cutB_congr {e e' : Operand → Option Value} {lo hi : Option Operand} (hl : ∀ x, lo = some x → e x = e' x) (hh : ∀ x, hi = some x → e x = e' x) (n : Nat) : cutB e lo hi n = cutB e' lo hi n := by
  cases lo with
  | none => cases hi with
    | none => rfl
    | some y => simp only [cutB, hh y rfl]
  | some x => cases hi with
    | none => simp only [cutB, hl x rfl]
    | some y => simp only [cutB, hl x rfl, hh y rfl]

section
variable {T : TT} {e e' : Operand → Option Value}

theorem pure_congr (op : Op) (h : ∀ x ∈ op.operands.toList, e x = e' x) : pureOp T e op = pureOp T e' op := by
  cases op <;> simp only [Op.operands] at h
  case move x => simp only [pureOp]; exact h x (by simp)
  case assign x => simp only [pureOp]; exact h x (by simp)
  case pick c a b => simp only [pureOp, h c (by simp), h a (by simp), h b (by simp)]
  case binOp op t x y yt => simp only [pureOp, h x (by simp), h y (by simp)]
  case unOp op t x => simp only [pureOp, h x (by simp)]
  case convert s d x => simp only [pureOp, h x (by simp)]
  case makeInterface t x => simp only [pureOp, h x (by simp)]
  case makeFunc fn f c => simp only [pureOp]; rw [ops1_congr f.toList fun x hx => h x (by simp at hx ⊢; exact .inl hx), ops1_congr c.toList fun x hx => h x (by simp at hx ⊢; exact .inr hx)]
  case build t ps => simp only [pureOp]; rw [parts1_congr ps.toList fun x hx => h x (by simpa using hx)]
  case nilCheck x => simp only [pureOp, h x (by simp)]
  case fieldAddr s x f => simp only [pureOp, h x (by simp)]
  case field s x f => simp only [pureOp, h x (by simp)]
  case indexAddr t x i => simp only [pureOp, h x (by simp), h i (by simp)]
  case index t x i => simp only [pureOp, h x (by simp), h i (by simp)]
  case extract x i => simp only [pureOp, h x (by simp)]
  case typeAssert x xt t ok => simp only [pureOp, h x (by simp)]
  case slice t x lo hi mx =>
    have hx := h x (by simp)
    have hlo : ∀ y, lo = some y → e y = e' y := fun y hy => h y (by subst hy; simp)
    have hhi : ∀ y, hi = some y → e y = e' y := fun y hy => h y (by subst hy; simp)
    have hmx : ∀ y, mx = some y → e y = e' y := fun y hy => h y (by subst hy; simp)
    cases mx with
    | none => simp only [pureOp, hx, cutB_congr hlo hhi]
    | some mx => cases hi with
      | none => simp [pureOp]
      | some hi => simp only [pureOp, hx, hhi hi rfl, hmx mx rfl]
  case call c =>
    obtain ⟨callee, args, ats⟩ := c
    cases callee with
    | value f => simp [pureOp]
    | invoke r n => simp [pureOp]
    | builtin b =>
      simp only [Call.operands] at h
      have ha : ∀ x ∈ args.toList, e x = e' x := fun x hx => h x (by simpa using hx)
      cases b
      case len =>
        obtain ⟨l⟩ := args
        simp only at ha
        cases l with
        | nil => simp [pureOp]
        | cons x l => cases l with
          | nil =>
            obtain ⟨tl⟩ := ats
            have hx := ha x (by simp)
            rcases tl with _ | ⟨t, tl⟩ <;> simp only [pureOp, hx]
          | cons y l => simp [pureOp]
      case cap =>
        obtain ⟨l⟩ := args
        simp only at ha
        cases l with
        | nil => simp [pureOp]
        | cons x l => cases l with
          | nil =>
            obtain ⟨tl⟩ := ats
            have hx := ha x (by simp)
            rcases tl with _ | ⟨t, tl⟩ <;> simp only [pureOp, hx]
          | cons y l => simp [pureOp]
      case min => simp only [pureOp]; rw [ops1_congr _ ha]
      case max => simp only [pureOp]; rw [ops1_congr _ ha]
      all_goals simp [pureOp]
  all_goals simp [pureOp]

theorem read_congr (H : AH) (op : Op) (h : ∀ x ∈ op.operands.toList, e x = e' x) : readOp T e H op = readOp T e' H op := by
  cases op <;> simp only [Op.operands] at h
  case load t x => simp only [readOp, h x (by simp)]
  case lookup t x k ok => simp only [readOp, h x (by simp), h k (by simp)]
  all_goals simp [readOp]

theorem alloc_congr (op : Op) (h : ∀ x ∈ op.operands.toList, e x = e' x) : allocOp T e op = allocOp T e' op := by
  cases op <;> simp only [Op.operands] at h
  case alloc t => simp only [allocOp]
  case box t x => simp only [allocOp, h x (by simp)]
  case buildSlice t n ps => simp only [allocOp]; rw [parts1_congr ps.toList fun x hx => h x (by simpa using hx)]
  case makeSlice t l c => simp only [allocOp, h l (by simp), h c (by simp)]
  case makeMap t r => cases r <;> simp [allocOp]
  case range t x => simp only [allocOp, h x (by simp)]
  all_goals simp [allocOp]

theorem eff_congr (H : AH) (op : Op) (h : ∀ x ∈ op.operands.toList, e x = e' x) : effOp T e H op = effOp T e' H op := by
  cases op <;> simp only [Op.operands] at h
  case store t x y => simp only [effOp, h x (by simp), h y (by simp)]
  case mapUpdate t m k x => simp only [effOp, h m (by simp), h k (by simp), h x (by simp)]
  case insert t m k x => simp only [effOp, h m (by simp), h k (by simp), h x (by simp)]
  case next x b => cases b <;> simp only [effOp, h x (by simp)]
  case call c =>
    obtain ⟨callee, args, ats⟩ := c
    cases callee with
    | value f => simp [effOp]
    | invoke r n => simp [effOp]
    | builtin b =>
      simp only [Call.operands] at h
      have ha : ∀ x ∈ args.toList, e x = e' x := fun x hx => h x (by simpa using hx)
      cases b
      case copy =>
        obtain ⟨l⟩ := args
        simp only at ha
        rcases l with _ | ⟨x, _ | ⟨y, _ | ⟨z, l⟩⟩⟩
        · simp [effOp]
        · simp [effOp]
        · obtain ⟨tl⟩ := ats
          have hx := ha x (by simp)
          have hy := ha y (by simp)
          rcases tl with _ | ⟨t, _ | ⟨u, tl⟩⟩ <;> simp only [effOp, hx, hy]
        · simp [effOp]
      case append =>
        obtain ⟨l⟩ := args
        simp only at ha
        rcases l with _ | ⟨x, _ | ⟨y, _ | ⟨z, l⟩⟩⟩
        · simp [effOp]
        · simp [effOp]
        · obtain ⟨tl⟩ := ats
          have hx := ha x (by simp)
          have hy := ha y (by simp)
          rcases tl with _ | ⟨t, _ | ⟨u, tl⟩⟩ <;> simp only [effOp, hx, hy]
        · simp [effOp]
      all_goals simp [effOp]
  all_goals simp [effOp]
theorem operE_congr {E : Env} {r : Rec} {c : Ctx} {s : St} {o : Oper} (h : ∀ x ∈ o.op.operands.toList, e x = e' x) : operE E r c e s o = operE E r c e' s o := by
  have h1 := pure_congr (T := E.T) o.op h
  have h2 := read_congr (T := E.T) s.H o.op h
  have h3 := alloc_congr (T := E.T) o.op h
  have h4 := eff_congr (T := E.T) s.H o.op h
  unfold operE
  split
  · rename_i f args ats hop
    rw [hop] at h
    simp only [Op.operands, Call.operands] at h
    rw [h f (by simp), ops1_congr args.toList fun x hx => h x (by simp at hx ⊢; exact .inr hx)]
  · rename_i x n args ats hop
    rw [hop] at h
    simp only [Op.operands, Call.operands] at h
    rw [h x (by simp), ops1_congr args.toList fun x hx => h x (by simp at hx ⊢; exact .inr hx)]
  · rfl
  · rename_i x hop
    rw [hop] at h
    simp only [Op.operands] at h
    rw [h x (by simp)]
  · rename_i f args ats hop
    rw [hop] at h
    simp only [Op.operands, Call.operands] at h
    rw [h f (by simp), ops1_congr args.toList fun x hx => h x (by simp at hx ⊢; exact .inr hx)]
  · simp only [h1, h2, h3, h4]
end
end Go.U
end

section
namespace Go.U
set_option autoImplicit false

/-- The names below n. -/
def Ren.cut (m : Ren) (n : Nat) : Ren := ⟨fun b => if b < n then m.ρ b else none, m.κ⟩
theorem Ren.cut_some {m : Ren} {n b x : Nat} : (m.cut n).ρ b = some x ↔ b < n ∧ m.ρ b = some x := by
  simp only [Ren.cut]
  by_cases h : b < n <;> simp [h]
theorem Ren.cut_le (m : Ren) (n : Nat) : (m.cut n).Le m := ⟨fun _ _ h => (Ren.cut_some.1 h).2, fun _ _ _ => rfl⟩
theorem Ren.cut_mono {m m' : Ren} (h : m.Le m') {n n' : Nat} (hn : n ≤ n') : (m.cut n).Le (m'.cut n') :=
  ⟨fun _ _ hb => Ren.cut_some.2 ⟨Nat.lt_of_lt_of_le (Ren.cut_some.1 hb).1 hn, h.ρ _ _ (Ren.cut_some.1 hb).2⟩, fun _ _ hb => h.κ _ _ (Ren.cut_some.1 hb).2⟩
theorem Ren.cut_eq {m : Ren} {n : Nat} (h : ∀ b x, m.ρ b = some x → b < n) : m.cut n = m := by
  obtain ⟨ρ, κ⟩ := m
  simp only [Ren.cut]
  congr 1
  funext b
  by_cases hb : b < n
  · simp [hb]
  · simp only [hb, if_false]
    cases hr : ρ b with
    | none => rfl
    | some x => exact absurd (h b x hr) hb

section
variable {K : KK} {P : Program} {m m' : Ren} {H H1 : AH} {w w1 : World}

/-- The same names, of the same rows. -/
theorem Rel.ren (hR : Rel K P m H w) (hle : m.Le m') (h : ∀ b x, m'.ρ b = some x → m.ρ b = some x) : Rel K P m' H w where
  dom b x hb := hR.dom b x (h b x hb)
  obj b x o hb ho := by
    obtain ⟨o', h1, h2⟩ := hR.obj b x o (h b x hb) ho
    exact ⟨o', h1, h2.mono hle (h b x hb) fun cs T g tip kill _ hg hk => ⟨tip, kill, hg, hk⟩⟩
  inj b c x hb hc := hR.inj b c x (h b x hb) (h c x hc)
  bnd b x hb := hR.bnd b x (h b x hb)
  grp b x cs T g tip kill hb := hR.grp b x cs T g tip kill (h b x hb)
  gbd b x cs T g hb := hR.gbd b x cs T g (h b x hb)
  base b x hb := hR.base b x (h b x hb)
  gl := hR.gl
  bsz := hR.bsz
  ob := hR.ob

/-- What is known of the names from lo on below hi, that one operation has laid: H1 is the heap behind it. -/
structure Chunk (K : KK) (P : Program) (m : Ren) (lo hi : Nat) (H1 : AH) (w : World) : Prop where
  obj : ∀ b x o, lo ≤ b → b < hi → m.ρ b = some x → H1.get b = some o → ∃ o', w.heap[x]? = some o' ∧ ORel K (m.cut hi) H1.gs P.cellsOf b o o'
  bnd : ∀ b x, lo ≤ b → b < hi → m.ρ b = some x → x < w.heap.size
  sep : ∀ b x c, lo ≤ b → b < hi → m.ρ b = some x → c < lo → m.ρ c ≠ some x
  inj : ∀ b c x, lo ≤ b → b < hi → lo ≤ c → c < hi → m.ρ b = some x → m.ρ c = some x → b = c ∨ Kin H1 b c
  grp : ∀ b x cs T g tip kill, lo ≤ b → b < hi → m.ρ b = some x → H1.get b = some (.cells cs T (some g)) → H1.gs.get g = some (tip, kill) → Nat.blt b kill = false →
    b ≤ tip ∧ tip < hi ∧ ∀ o, H1.get tip = some o → ∃ ct, o = .cells ct T (some g) ∧ cs.length ≤ ct.length
  gbd : ∀ b x cs T g, lo ≤ b → b < hi → m.ρ b = some x → H1.get b = some (.cells cs T (some g)) → g < hi
  base : ∀ b x, lo ≤ b → b < hi → m.ρ b = some x → K.B ≤ x ∨ H1.get b = none

theorem Rel.ext {lo : Nat} (hR : Rel K P (m.cut lo) H w) (hlo : H.next = lo) (hq : QSt H H1) (hc : Chunk K P m lo H1.next H1 w) : Rel K P (m.cut H1.next) H1 w := by
  have hR' : Rel K P (m.cut lo) H1 w := hR.agree hq.next hq.keep
  have hle : (m.cut lo).Le (m.cut H1.next) := Ren.cut_mono (Ren.Le.refl m) (by rw [← hlo]; exact hq.next)
  have hcase : ∀ b x, (m.cut H1.next).ρ b = some x → (m.cut lo).ρ b = some x ∨ (lo ≤ b ∧ b < H1.next ∧ m.ρ b = some x) := by
    intro b x hb
    obtain ⟨h1, h2⟩ := Ren.cut_some.1 hb
    rcases Nat.lt_or_ge b lo with h | h
    · exact .inl (Ren.cut_some.2 ⟨h, h2⟩)
    · exact .inr ⟨h, h1, h2⟩
  refine ⟨fun b x hb => (Ren.cut_some.1 hb).1, ?_, ?_, ?_, ?_, ?_, ?_, hR'.gl, hR'.bsz, hR'.ob⟩
  · intro b x o hb ho
    rcases hcase b x hb with h | ⟨h1, h2, h3⟩
    · obtain ⟨o', h1, h2⟩ := hR'.obj b x o h ho
      exact ⟨o', h1, h2.mono hle h fun cs T g tip kill _ hg hk => ⟨tip, kill, hg, hk⟩⟩
    · exact hc.obj b x o h1 h2 h3 ho
  · intro b c x hb hcx
    rcases hcase b x hb with h | ⟨h1, h2, h3⟩ <;> rcases hcase c x hcx with h' | ⟨h1', h2', h3'⟩
    · exact hR'.inj b c x h h'
    · obtain ⟨k1, k2⟩ := Ren.cut_some.1 h
      exact absurd k2 (hc.sep c x b h1' h2' h3' k1)
    · obtain ⟨k1, k2⟩ := Ren.cut_some.1 h'
      exact absurd k2 (hc.sep b x c h1 h2 h3 k1)
    · exact hc.inj b c x h1 h2 h1' h2' h3 h3'
  · intro b x hb
    rcases hcase b x hb with h | ⟨h1, h2, h3⟩
    · exact hR'.bnd b x h
    · exact hc.bnd b x h1 h2 h3
  · intro b x cs T g tip kill hb ho hg hk
    rcases hcase b x hb with h | ⟨h1, h2, h3⟩
    · exact hR'.grp b x cs T g tip kill h ho hg hk
    · exact hc.grp b x cs T g tip kill h1 h2 h3 ho hg hk
  · intro b x cs T g hb ho
    rcases hcase b x hb with h | ⟨h1, h2, h3⟩
    · exact hR'.gbd b x cs T g h ho
    · exact hc.gbd b x cs T g h1 h2 h3 ho
  · intro b x hb
    rcases hcase b x hb with h | ⟨h1, h2, h3⟩
    · exact hR'.base b x h
    · exact hc.base b x h1 h2 h3
/-- Nothing was laid. -/
theorem Rel.ext0 {lo : Nat} (hR : Rel K P (m.cut lo) H w) (hlo : H.next = lo) (hq : QSt H H1) (hc : ∀ b, lo ≤ b → b < H1.next → m.ρ b = none) : Rel K P (m.cut H1.next) H1 w :=
  hR.ext hlo hq ⟨fun b x o h1 h2 h3 => (by rw [hc b h1 h2] at h3; simp at h3), fun b x h1 h2 h3 => (by rw [hc b h1 h2] at h3; simp at h3), fun b x c h1 h2 h3 => (by rw [hc b h1 h2] at h3; simp at h3),
    fun b c x h1 h2 _ _ h3 => (by rw [hc b h1 h2] at h3; simp at h3), fun b x cs T g tip kill h1 h2 h3 => (by rw [hc b h1 h2] at h3; simp at h3), fun b x cs T g h1 h2 h3 => (by rw [hc b h1 h2] at h3; simp at h3), fun b x h1 h2 h3 => (by rw [hc b h1 h2] at h3; simp at h3)⟩

/-- A chunk outlives what does not touch it. -/
theorem Chunk.keep {lo hi : Nat} (hc : Chunk K P m lo hi H1 w) (hle : m.Le m') (hsz : w.heap.size ≤ w1.heap.size) (hsame : ∀ b, lo ≤ b → b < hi → m'.ρ b = m.ρ b)
    (hw : ∀ b x, lo ≤ b → b < hi → m.ρ b = some x → w1.heap[x]? = w.heap[x]?) (hsep : ∀ b x c, lo ≤ b → b < hi → m.ρ b = some x → c < lo → m'.ρ c = some x → m.ρ c = some x) : Chunk K P m' lo hi H1 w1 where
  obj b x o h1 h2 h3 ho := by
    rw [hsame b h1 h2] at h3
    obtain ⟨o', k1, k2⟩ := hc.obj b x o h1 h2 h3 ho
    exact ⟨o', by rw [hw b x h1 h2 h3]; exact k1, k2.mono (Ren.cut_mono hle (Nat.le_refl _)) (Ren.cut_some.2 ⟨h2, h3⟩) fun cs T g tip kill _ hg hk => ⟨tip, kill, hg, hk⟩⟩
  bnd b x h1 h2 h3 := Nat.lt_of_lt_of_le (hc.bnd b x h1 h2 (by rw [← hsame b h1 h2]; exact h3)) hsz
  sep b x c h1 h2 h3 h4 h5 := by
    rw [hsame b h1 h2] at h3
    exact hc.sep b x c h1 h2 h3 h4 (hsep b x c h1 h2 h3 h4 h5)
  inj b c x h1 h2 h3 h4 h5 h6 := hc.inj b c x h1 h2 h3 h4 (by rw [← hsame b h1 h2]; exact h5) (by rw [← hsame c h3 h4]; exact h6)
  grp b x cs T g tip kill h1 h2 h3 := hc.grp b x cs T g tip kill h1 h2 (by rw [← hsame b h1 h2]; exact h3)
  gbd b x cs T g h1 h2 h3 := hc.gbd b x cs T g h1 h2 (by rw [← hsame b h1 h2]; exact h3)
  base b x h1 h2 h3 := hc.base b x h1 h2 (by rw [← hsame b h1 h2]; exact h3)

/-- Names of one chunk out of m1, all others out of m. -/
def Ren.join (m m1 : Ren) (lo hi : Nat) : Ren := ⟨fun b => if lo ≤ b ∧ b < hi then m1.ρ b else m.ρ b, fun b => if lo ≤ b ∧ b < hi then m1.κ b else m.κ b⟩
theorem Ren.join_in {m m1 : Ren} {lo hi b : Nat} (h1 : lo ≤ b) (h2 : b < hi) : (m.join m1 lo hi).ρ b = m1.ρ b := by simp [Ren.join, h1, h2]
theorem Ren.join_out {m m1 : Ren} {lo hi b : Nat} (h : b < lo ∨ hi ≤ b) : (m.join m1 lo hi).ρ b = m.ρ b := by
  have : ¬ (lo ≤ b ∧ b < hi) := by omega
  simp [Ren.join, this]
theorem Ren.join_le {m m1 : Ren} {lo hi : Nat} (h : ∀ b, lo ≤ b → b < hi → m.ρ b = none) : m.Le (m.join m1 lo hi) where
  ρ b x hb := by
    have : b < lo ∨ hi ≤ b := by
      rcases Nat.lt_or_ge b lo with h' | h'
      · exact .inl h'
      · rcases Nat.lt_or_ge b hi with h'' | h''
        · rw [h b h' h''] at hb; simp at hb
        · exact .inr h''
    rw [Ren.join_out this]; exact hb
  κ b x hb := by
    have : ¬ (lo ≤ b ∧ b < hi) := fun ⟨h1, h2⟩ => by rw [h b h1 h2] at hb; simp at hb
    simp [Ren.join, this]
/-- m1 is what an operation has left of m's names below lo. -/
theorem Ren.le_join {m m1 : Ren} {lo hi : Nat} (hle : (m.cut lo).Le m1) (hnew : ∀ b x, m1.ρ b = some x → (m.cut lo).ρ b = none → lo ≤ b) (hdom : ∀ b x, m1.ρ b = some x → b < hi) : m1.Le ((m.join m1 lo hi).cut hi) where
  ρ b x hb := by
    refine Ren.cut_some.2 ⟨hdom b x hb, ?_⟩
    rcases Nat.lt_or_ge b lo with h | h
    · rw [Ren.join_out (.inl h)]
      cases hm : (m.cut lo).ρ b with
      | none => have := hnew b x hb hm; omega
      | some y =>
        have := hle.ρ _ _ hm
        rw [hb] at this; simp only [Option.some.injEq] at this; subst this
        exact (Ren.cut_some.1 hm).2
    · rw [Ren.join_in h (hdom b x hb)]; exact hb
  κ b x hb := by
    show (if lo ≤ b ∧ b < hi then m1.κ b else m.κ b) = m1.κ b
    rcases Nat.lt_or_ge b lo with h | h
    · have : ¬ (lo ≤ b ∧ b < hi) := by omega
      simp only [this, if_false]
      cases hm : (m.cut lo).ρ b with
      | none => have := hnew b x hb hm; omega
      | some y => exact (hle.κ _ _ hm).symm
    · have := hdom b x hb
      simp [h, this]
theorem Ren.join_back {m m1 : Ren} {lo hi : Nat} (hle : (m.cut lo).Le m1) {b x : Nat} (h : ((m.join m1 lo hi).cut hi).ρ b = some x) : m1.ρ b = some x := by
  obtain ⟨h1, h2⟩ := Ren.cut_some.1 h
  rcases Nat.lt_or_ge b lo with h3 | h3
  · rw [Ren.join_out (.inl h3)] at h2
    exact hle.ρ _ _ (Ren.cut_some.2 ⟨h3, h2⟩)
  · rwa [Ren.join_in h3 h1] at h2
end
end Go.U
end

section
namespace Go.U
set_option autoImplicit false

/-! ### what kinds of operations do -/
section
variable {T : TT} {e : Operand → Option Value} {H : AH} {k i : Nat} {op : Op}
theorem cls0 (h : cls k i op = 0) : readOp T e H op = none ∧ allocOp T e op = none ∧ effOp T e H op = none := by
  cases op <;> simp [cls] at h <;> try (refine ⟨?_, ?_, ?_⟩ <;> simp [readOp, allocOp, effOp]; done)
  rename_i c
  obtain ⟨callee, args, ats⟩ := c
  cases callee with
  | value f => simp at h; cases hb : k.testBit i <;> simp [hb] at h
  | invoke r n => simp at h; cases hb : k.testBit i <;> simp [hb] at h
  | builtin b => cases b <;> simp at h <;> (refine ⟨?_, ?_, ?_⟩ <;> simp [readOp, allocOp, effOp])
theorem cls1 (h : cls k i op = 1 ∨ cls k i op = 6) : pureOp T e op = none ∧ allocOp T e op = none ∧ effOp T e H op = none := by
  cases op <;> simp [cls] at h <;> try (refine ⟨?_, ?_, ?_⟩ <;> simp [pureOp, allocOp, effOp]; done)
  rename_i c
  obtain ⟨callee, args, ats⟩ := c
  cases callee with
  | value f => simp at h; cases hb : k.testBit i <;> simp [hb] at h
  | invoke r n => simp at h; cases hb : k.testBit i <;> simp [hb] at h
  | builtin b => cases b <;> simp at h
theorem cls2 (h : cls k i op = 2) : pureOp T e op = none ∧ readOp T e H op = none ∧ effOp T e H op = none := by
  cases op <;> simp [cls] at h <;> try (refine ⟨?_, ?_, ?_⟩ <;> simp [pureOp, readOp, effOp]; done)
  rename_i c
  obtain ⟨callee, args, ats⟩ := c
  cases callee with
  | value f => simp at h; cases hb : k.testBit i <;> simp [hb] at h
  | invoke r n => simp at h; cases hb : k.testBit i <;> simp [hb] at h
  | builtin b => cases b <;> simp at h
theorem cls3 (h : cls k i op = 3) : pureOp T e op = none ∧ readOp T e H op = none ∧ allocOp T e op = none := by
  cases op <;> simp [cls] at h <;> try (refine ⟨?_, ?_, ?_⟩ <;> simp [pureOp, readOp, allocOp]; done)
  rename_i c
  obtain ⟨callee, args, ats⟩ := c
  cases callee with
  | value f => simp at h; cases hb : k.testBit i <;> simp [hb] at h
  | invoke r n => simp at h; cases hb : k.testBit i <;> simp [hb] at h
  | builtin b => cases b <;> simp at h <;> (refine ⟨?_, ?_, ?_⟩ <;> simp [pureOp, readOp, allocOp])
theorem cls45 (h : cls k i op = 4 ∨ cls k i op = 5) : (∃ f args ats, op = .call ⟨.value f, args, ats⟩) ∨ (∃ x n args ats, op = .call ⟨.invoke x n, args, ats⟩) := by
  cases op <;> simp [cls] at h
  rename_i c
  obtain ⟨callee, args, ats⟩ := c
  cases callee with
  | value f => exact .inl ⟨f, args, ats, rfl⟩
  | invoke r n => exact .inr ⟨r, n, args, ats, rfl⟩
  | builtin b => cases b <;> simp at h
theorem cls4_bit (h : cls k i op = 4) : k.testBit i = false := by
  rcases cls45 (.inl h) with ⟨f, args, ats, rfl⟩ | ⟨x, n, args, ats, rfl⟩ <;> (simp only [cls] at h; cases hb : k.testBit i <;> simp [hb] at h ⊢)
theorem cls_or : cls k i op = 0 ∨ cls k i op = 1 ∨ cls k i op = 2 ∨ cls k i op = 3 ∨ cls k i op = 4 ∨ cls k i op = 5 ∨ cls k i op = 6 ∨ cls k i op = 7 := by
  unfold cls
  split
  all_goals first
    | (simp; done)
    | (cases h : k.testBit i <;> simp)
theorem cls_not (h : cls k i op = 0 ∨ cls k i op = 1 ∨ cls k i op = 2 ∨ cls k i op = 3 ∨ cls k i op = 6) : (∀ f args ats, op ≠ .call ⟨.value f, args, ats⟩) ∧ (∀ x n args ats, op ≠ .call ⟨.invoke x n, args, ats⟩) ∧
    (∀ args ats, op ≠ .call ⟨.builtin .recover, args, ats⟩) ∧ (∀ x, op ≠ .panic x) ∧ (∀ c, op ≠ .defer c) := by
  refine ⟨?_, ?_, ?_, ?_, ?_⟩ <;> intros <;> intro hop <;> subst hop <;> simp [cls] at h
  all_goals (cases hb : k.testBit i <;> simp [hb] at h)

variable {E : Env} {r : Rec} {c : Ctx} {s : St} {o : Oper}
theorem operE_opN (h : cls k i o.op = 0 ∨ cls k i o.op = 1 ∨ cls k i o.op = 2 ∨ cls k i o.op = 3 ∨ cls k i o.op = 6) :
    operE E r c e s o = match opN E.T e s.H o.op with
      | some (v, H1, q) => some (.val v { s with H := H1 } q)
      | none => none := by
  obtain ⟨h1, h2, h3, h4, h5⟩ := cls_not h
  unfold operE
  split
  · rename_i hop; exact absurd hop (h1 _ _ _)
  · rename_i hop; exact absurd hop (h2 _ _ _ _)
  · rename_i hop; exact absurd hop (h3 _ _)
  · rename_i hop; exact absurd hop (h4 _)
  · rename_i hop; exact absurd hop (h5 _)
  · unfold opN
    cases hp : pureOp E.T e o.op with
    | some v => rfl
    | none =>
      simp only
      cases hr : readOp E.T e s.H o.op with
      | some v => rfl
      | none =>
        simp only
        cases ha : allocOp E.T e o.op with
        | some p => rfl
        | none =>
          simp only
          cases he : effOp E.T e s.H o.op with
          | some p => rfl
          | none => rfl
/-- Nothing but the heap changes. -/
theorem oper_same {res : OR} (h : operE E r c e s o = some res) (hc : cls k i o.op ≠ 7) : (orEnd res).2.tm = s.tm ∧ (orEnd res).2.df = s.df ∧ (orEnd res).2.bm = s.bm := by
  have haft : ∀ x, after s x = some res → (orEnd res).2.tm = s.tm ∧ (orEnd res).2.df = s.df ∧ (orEnd res).2.bm = s.bm := by
    intro x hx
    unfold after at hx
    split at hx
    · simp only [Option.some.injEq] at hx; subst hx; exact ⟨rfl, rfl, rfl⟩
    · simp only [Option.some.injEq] at hx; subst hx; exact ⟨rfl, rfl, rfl⟩
    · simp at hx
  rcases cls_or (k := k) (i := i) (op := o.op) with h0 | h0 | h0 | h0 | h0 | h0 | h0 | h0
  case inr.inr.inr.inr.inr.inr.inr => exact absurd h0 hc
  case inr.inr.inr.inr.inl | inr.inr.inr.inr.inr.inl =>
    rcases cls45 (by first | exact .inl h0 | exact .inr h0) with ⟨f, args, ats, hop⟩ | ⟨x, n, args, ats, hop⟩
    · unfold operE at h
      rw [hop] at h
      simp only at h
      split at h
      · exact haft _ h
      · simp at h
    · unfold operE at h
      rw [hop] at h
      simp only at h
      split at h
      · split at h
        · split at h
          · exact haft _ h
          · simp at h
        · simp at h
      · simp at h
  all_goals
    rw [operE_opN (k := k) (i := i) (by simp [h0])] at h
    split at h
    · simp only [Option.some.injEq] at h; subst h; exact ⟨rfl, rfl, rfl⟩
    · simp at h
end

/-- An effect changes no other block; a store outside growing rows changes no group. -/
theorem eff_tgt {T : TT} {e : Operand → Option Value} {H H1 : AH} {op : Op} {v : Value} (h : effOp T e H op = some (v, H1)) :
    (∀ b, b < H.next → tgt e op ≠ some b → H1.get b = H.get b) ∧ (∀ b, tgt e op = some b → cleanE H b op = true → H1.gs = H.gs) ∧ (tgt e op = none → ∀ g, g < H.next → H1.gs.get g = H.gs.get g) := by
  have hst : ∀ {b o vs H'}, H.storeAt b o vs = some H' → (∀ c, c ≠ b → H'.get c = H.get c) ∧ (∀ cs t, H.get b = some (.cells cs t none) → H'.gs = H.gs) := by
    intro b o vs H' h
    simp only [AH.storeAt] at h
    split at h <;> try (simp at h; done)
    rename_i cs t g hc
    obtain ⟨hget, _⟩ := cellsAt_get hc
    cases hb : (oneL vs && Nat.ble (o + vs.length) cs.length) with
    | false => simp [hb] at h
    | true =>
      simp only [hb, cond_true] at h
      split at h
      · simp only [Option.some.injEq] at h; subst h
        exact ⟨fun c hc => get_put_other H b c _ hc, fun _ _ _ => rfl⟩
      · split at h <;> try (simp at h; done)
        rename_i tip kill hg
        cases ht : Nat.beq tip b with
        | false => simp [ht] at h
        | true =>
          simp only [ht, cond_true, Option.some.injEq] at h; subst h
          exact ⟨fun c hc => get_put_other H b c _ hc, fun cs t hn => by rw [hget] at hn; simp at hn⟩
  unfold effOp at h
  split at h
  · -- store
    rename_i t x y
    split at h <;> try (simp at h; done)
    rename_i b o v0 i hx _ _
    cases hb : Nat.beq (cellsL v0).length i.size with
    | false => simp [hb] at h
    | true =>
      simp only [hb, cond_true] at h
      split at h <;> try (simp at h; done)
      rename_i H' hs
      simp only [Option.some.injEq, Prod.mk.injEq] at h; obtain ⟨_, rfl⟩ := h
      have ht : tgt e (.store t x y) = some b := by simp [tgt, hx]
      refine ⟨fun c _ hc => (hst hs).1 c fun e => hc (by rw [ht, e]), fun c hc hcl => ?_, fun hn => by rw [ht] at hn; simp at hn⟩
      rw [ht] at hc; simp only [Option.some.injEq] at hc; subst hc
      simp only [cleanE] at hcl
      split at hcl
      · rename_i cs tt hg; exact (hst hs).2 cs tt hg
      · simp at hcl
  · -- mapUpdate
    rename_i t m k x
    split at h <;> try (simp at h; done)
    rename_i b q n v0 i hm _ _ _
    have ht : tgt e (.mapUpdate t m k x) = some b := by simp [tgt, hm]
    repeat' split at h
    all_goals first
      | (simp at h; done)
      | (simp only [Option.some.injEq, Prod.mk.injEq] at h; obtain ⟨_, rfl⟩ := h
         exact ⟨fun c _ hc => get_put_other H b c _ fun e => hc (by rw [ht, e]), fun _ _ _ => rfl, fun hn => by rw [ht] at hn; simp at hn⟩)
  · -- insert
    rename_i t m k x
    split at h <;> try (simp at h; done)
    rename_i b q n v0 i hm _ _ _
    have ht : tgt e (.insert t m k x) = some b := by simp [tgt, hm]
    repeat' split at h
    all_goals first
      | (simp at h; done)
      | (simp only [Option.some.injEq, Prod.mk.injEq] at h; obtain ⟨_, rfl⟩ := h
         exact ⟨fun c _ hc => get_put_other H b c _ fun e => hc (by rw [ht, e]), fun _ _ _ => rfl, fun hn => by rw [ht] at hn; simp at hn⟩)
  · -- copy
    rename_i args ats
    split at h <;> try (simp at h; done)
    rename_i x y t tl hargs hats
    split at h <;> try (simp at h; done)
    rename_i b o n c b' o' n' c' ti hx hy hti
    have ht : tgt e (.call ⟨.builtin .copy, args, ats⟩) = some b := by simp [tgt, hargs, hx]
    split at h <;> try (simp at h; done)
    split at h <;> try (simp at h; done)
    rename_i ei cs _ _ _ _
    cases hk : Nat.beq (bif Nat.blt n n' then n else n') 0 with
    | true =>
      simp only [hk, cond_true, Option.some.injEq, Prod.mk.injEq] at h; obtain ⟨_, rfl⟩ := h
      exact ⟨fun _ _ _ => rfl, fun _ _ _ => rfl, fun _ _ _ => rfl⟩
    | false =>
      simp only [hk, cond_false] at h
      cases hb : Nat.ble (o' + (bif Nat.blt n n' then n else n') * ei.size) cs.length with
      | false => simp [hb] at h
      | true =>
        simp only [hb, cond_true] at h
        split at h <;> try (simp at h; done)
        rename_i H' hs
        simp only [Option.some.injEq, Prod.mk.injEq] at h; obtain ⟨_, rfl⟩ := h
        exact ⟨fun c _ hc => (hst hs).1 c fun e => hc (by rw [ht, e]), fun c _ hcl => by simp [cleanE] at hcl, fun hn => by rw [ht] at hn; simp at hn⟩
  · -- next
    rename_i x
    split at h <;> try (simp at h; done)
    rename_i b hx
    have ht : tgt e (.next x true) = some b := by simp [tgt, hx]
    split at h <;> try (simp at h; done)
    rename_i s pos _
    cases hp : Nat.blt pos s.size with
    | true =>
      simp only [hp, cond_true, Option.some.injEq, Prod.mk.injEq] at h; obtain ⟨_, rfl⟩ := h
      exact ⟨fun c _ hc => get_put_other H b c _ fun e => hc (by rw [ht, e]), fun _ _ _ => rfl, fun hn => by rw [ht] at hn; simp at hn⟩
    | false =>
      simp only [hp, cond_false, Option.some.injEq, Prod.mk.injEq] at h; obtain ⟨_, rfl⟩ := h
      exact ⟨fun _ _ _ => rfl, fun _ _ _ => rfl, fun _ _ _ => rfl⟩
  · -- append
    rename_i args ats
    have hcl : ∀ b, cleanE H b (.call ⟨.builtin .append, args, ats⟩) = true → False := fun b hb => by simp [cleanE] at hb
    split at h <;> try (simp at h; done)
    rename_i x y t u tl hargs hats
    split at h <;> try (simp at h; done)
    rename_i sa sn sc yv ti ui hx hy hti hui
    split at h <;> try (simp at h; done)
    split at h <;> try (simp at h; done)
    split at h <;> try (simp at h; done)
    rename_i et ud _ ei _ _ n new _
    cases hn : Nat.beq n 0 with
    | true =>
      simp only [hn, cond_true, Option.some.injEq, Prod.mk.injEq] at h; obtain ⟨_, rfl⟩ := h
      exact ⟨fun _ _ _ => rfl, fun _ _ _ => rfl, fun _ _ _ => rfl⟩
    | false =>
      simp only [hn, cond_false] at h
      cases hc : (oneL new && Nat.blt (sn + n) 1048576 && Nat.blt 0 ei.size && Nat.blt 0 ei.bytes && Nat.blt ei.bytes 65536) with
      | false => simp [hc] at h
      | true =>
        simp only [hc, cond_true] at h
        have hpush : ∀ (cs : List Value) (tt : TypeId), (∀ b, b < H.next → ({ H.push (.cells cs tt (some H.next)) with gs := H.gs.set (H.next + 1) H.next (H.next, 0) } : AH).get b = H.get b) ∧
            (∀ g, g < H.next → ({ H.push (.cells cs tt (some H.next)) with gs := H.gs.set (H.next + 1) H.next (H.next, 0) } : AH).gs.get g = H.gs.get g) := fun cs tt =>
          ⟨fun b hb => get_push_other H b _ (Nat.ne_of_lt hb), fun g hg => Tr.get_set_other _ _ _ _ _ (Nat.ne_of_gt hg)⟩
        split at h
        · cases hz : (Nat.beq sn 0 && Nat.beq sc 0) with
          | false => simp [hz] at h
          | true =>
            simp only [hz, cond_true, Option.some.injEq, Prod.mk.injEq] at h; obtain ⟨_, rfl⟩ := h
            exact ⟨fun b hb _ => (hpush _ _).1 b hb, fun b _ hb => (hcl b hb).elim, fun _ => (hpush _ _).2⟩
        · rename_i b o
          have ht : tgt e (.call ⟨.builtin .append, args, ats⟩) = some b := by simp [tgt, hargs, hx]
          have hno : tgt e (.call ⟨.builtin .append, args, ats⟩) = none → ∀ g, g < H.next → H1.gs.get g = H.gs.get g := fun hn => by rw [ht] at hn; simp at hn
          split at h <;> try (simp at h; done)
          rename_i cs bt g hg
          cases h1 : (Nat.ble (o + sn * ei.size) cs.length && Nat.beq bt et) with
          | false => simp [h1] at h
          | true =>
            simp only [h1, cond_true] at h
            cases h2 : Nat.blt sc HALF with
            | true =>
              simp only [h2, cond_true] at h
              cases h3 : Nat.blt sc (sn + n) with
              | false => simp [h3] at h
              | true =>
                simp only [h3, cond_true, Option.some.injEq, Prod.mk.injEq] at h; obtain ⟨_, rfl⟩ := h
                exact ⟨fun b hb _ => (hpush _ _).1 b hb, fun b _ hb => (hcl b hb).elim, hno⟩
            | false =>
              simp only [h2, cond_false] at h
              split at h <;> try (simp at h; done)
              rename_i g _
              cases h3 : (Nat.beq o 0 && Nat.beq sc UNK && Nat.ble ((sn + n) * ei.size) cs.length) with
              | true =>
                simp only [h3, cond_true] at h
                split at h <;> try (simp at h; done)
                rename_i H' hs
                simp only [Option.some.injEq, Prod.mk.injEq] at h; obtain ⟨_, rfl⟩ := h
                exact ⟨fun c _ hc => (hst hs).1 c fun e => hc (by rw [ht, e]), fun b _ hb => (hcl b hb).elim, hno⟩
              | false =>
                simp only [h3, cond_false] at h
                split at h <;> try (simp at h; done)
                rename_i tip kill _
                cases h4 : (Nat.beq tip b && Nat.beq o 0 && Nat.beq (sn * ei.size) cs.length && Nat.beq sc UNK) with
                | false => simp [h4] at h
                | true =>
                  simp only [h4, cond_true, Option.some.injEq, Prod.mk.injEq] at h; obtain ⟨_, rfl⟩ := h
                  exact ⟨fun c hc _ => get_push_other H c _ (Nat.ne_of_lt hc), fun b _ hb => (hcl b hb).elim, hno⟩
        · simp at h
  · simp at h
end Go.U
end

section
namespace Go.U
set_option autoImplicit false

section
variable {E : Env} {r : Rec} {c : Ctx} {ops : List Oper} {k : Nat} {us : List Nat} {n0 : Nat}

/-- What one step was. -/
structure Step1 (E : Env) (r : Rec) (c : Ctx) (k : Nat) (us : List Nat) (n0 : Nat) (o : Oper) (i : Nat) (d d1 : SD) (v : Value) (s' : St) (q : Bool) : Prop where
  op : oper E r c d.s o = some (.val v s' q)
  s1 : d1.s = { s' with tm := putT s'.tm o.dst v }
  bit : q = false → k.testBit i = true
  fl : q = true → d1.ss = d.ss ∧ ((us.getD i 0 = 0 ∧ d1.fs = d.fs) ∨ ∃ b cl, src (opd d.s.tm) o.op = some b ∧ cleanL d.s.H b n0 = some cl ∧ b < n0 ∧ hitS (us.getD i 0) b cl d.ss = false ∧ d1.fs = (us.getD i 0, b, cl) :: d.fs)
  ef : q = false → d1.fs = d.fs ∧ ((tgt (opd d.s.tm) o.op = none ∧ d1.ss = d.ss) ∨ ∃ b, tgt (opd d.s.tm) o.op = some b ∧ hitF i b (cleanE d.s.H b o.op) d.fs = false ∧ d1.ss = (i, b, cleanE d.s.H b o.op) :: d.ss)
theorem stepD_inv {o : Oper} {i : Nat} {d d1 : SD} (h : stepD E r c ops k us n0 o i d = some d1) :
    (wantedF ops d.s.tm o = some false ∧ d1.s = { d.s with tm := putT d.s.tm o.dst undef } ∧ d1.fs = d.fs ∧ d1.ss = d.ss) ∨
    (wantedF ops d.s.tm o = some true ∧ ∃ v s' q, Step1 E r c k us n0 o i d d1 v s' q) := by
  simp only [stepD] at h
  split at h
  · simp at h
  · rename_i hw
    simp only [Option.some.injEq] at h; subst h
    exact .inl ⟨hw, rfl, rfl, rfl⟩
  · rename_i hw
    refine .inr ⟨hw, ?_⟩
    split at h
    · rename_i v s1 ho
      split at h
      · rename_i hu
        simp only [Option.some.injEq] at h; subst h
        exact ⟨v, s1, true, ho, rfl, by simp, fun _ => ⟨rfl, .inl ⟨hu, rfl⟩⟩, by simp⟩
      · split at h
        · rename_i u _ _ b hsrc
          split at h
          · rename_i cl hcl
            cases hb : (Nat.blt b n0 && !hitS (us.getD i 0) b cl d.ss) with
            | false => rw [hb] at h; simp at h
            | true =>
              rw [hb] at h; simp only [cond_true, Option.some.injEq] at h; subst h
              rw [Bool.and_eq_true] at hb
              exact ⟨v, s1, true, ho, rfl, by simp, fun _ => ⟨rfl, .inr ⟨b, cl, hsrc, hcl, blt_t hb.1, by simpa using hb.2, rfl⟩⟩, by simp⟩
          · simp at h
        · simp at h
    · rename_i v s1 ho
      cases hf : k.testBit i with
      | false => simp [hf] at h
      | true =>
        simp only [hf, cond_true] at h
        split at h
        · rename_i b ht
          cases hb : hitF i b (cleanE d.s.H b o.op) d.fs with
          | true => simp [hb] at h
          | false =>
            simp only [hb, cond_false, Option.some.injEq] at h; subst h
            exact ⟨v, s1, false, ho, rfl, fun _ => hf, by simp, fun _ => ⟨rfl, .inr ⟨b, ht, hb, rfl⟩⟩⟩
        · rename_i ht
          simp only [Option.some.injEq] at h; subst h
          exact ⟨v, s1, false, ho, rfl, fun _ => hf, by simp, fun _ => ⟨rfl, .inl ⟨ht, rfl⟩⟩⟩
    · simp at h

theorem trace : ∀ (l : List Oper) (i : Nat) (d : SD) (y : X) (s1 : St), regionD E r c ops k us n0 l i d = some (y, s1) →
    ∃ (D : Nat → SD) (N : Nat), D 0 = d ∧ N ≤ l.length ∧ (∀ j, j < N → ∀ o, l[j]? = some o → stepD E r c ops k us n0 o (i + j) (D j) = some (D (j + 1))) ∧
      ((N = l.length ∧ y = .nrm ∧ s1 = (D N).s) ∨
       (N + 1 = l.length ∧ ∃ o v s2, l[N]? = some o ∧ k.testBit (i + N) = true ∧ wantedF ops (D N).s.tm o = some true ∧ oper E r c (D N).s o = some (.pan v s2) ∧ y = .pan v ∧ s1 = { s2 with tm := topAll ops s2.tm }))
  | [], i, d, y, s1, h => by
    simp only [regionD, Option.some.injEq, Prod.mk.injEq] at h; obtain ⟨rfl, rfl⟩ := h
    exact ⟨fun _ => d, 0, rfl, by simp, fun j hj => by omega, .inl ⟨rfl, rfl, rfl⟩⟩
  | o :: l, i, d, y, s1, h => by
    simp only [regionD] at h
    split at h
    · rename_i d1 hs
      obtain ⟨D, N, h1, h2, h3, h4⟩ := trace l (i + 1) d1 y s1 h
      refine ⟨fun | 0 => d | j + 1 => D j, N + 1, rfl, by simp; omega, ?_, ?_⟩
      · intro j hj o' ho'
        cases j with
        | zero => simp at ho'; subst ho'; simp only [Nat.add_zero]; rw [hs, h1]
        | succ j =>
          have := h3 j (by omega) o' (by simpa using ho')
          have e : i + 1 + j = i + (j + 1) := by omega
          rwa [e] at this
      · rcases h4 with ⟨h5, h6, h7⟩ | ⟨h5, o', v, s2, h6, h7, h8, h9, h10, h11⟩
        · exact .inl ⟨by simp [h5], h6, h7⟩
        · have e : i + 1 + N = i + (N + 1) := by omega
          rw [e] at h7
          exact .inr ⟨by simp; omega, o', v, s2, by simpa using h6, h7, h8, h9, h10, h11⟩
    · split at h
      · rename_i v s2 hk hw ho
        simp only [Option.some.injEq, Prod.mk.injEq] at h; obtain ⟨rfl, rfl⟩ := h
        exact ⟨fun _ => d, 0, rfl, by simp, fun j hj => by omega, .inr ⟨rfl, o, v, s2, rfl, hk, hw, ho, rfl, rfl⟩⟩
      · simp at h

/-- The places up to N. -/
structure Places (E : Env) (r : Rec) (c : Ctx) (ops : List Oper) (k : Nat) (us : List Nat) (n0 : Nat) (D : Nat → SD) (N : Nat) : Prop where
  hE : EnvA E
  hA : RecA r
  ok : ROK ops k us
  le : N ≤ ops.length
  step : ∀ j, j < N → ∀ o, ops[j]? = some o → stepD E r c ops k us n0 o j (D j) = some (D (j + 1))
  n0 : (D 0).s.H.next = n0

variable {D : Nat → SD} {N : Nat} (hp : Places E r c ops k us n0 D N)
include hp
theorem Places.get {j : Nat} (hj : j < N) : ∃ o, ops[j]? = some o := ⟨ops[j]'(Nat.lt_of_lt_of_le hj hp.le), by simp⟩
theorem Places.ast {j : Nat} (hj : j < N) : ASt (D j).s.H (D (j + 1)).s.H := by
  obtain ⟨o, ho⟩ := hp.get hj
  exact stepD_ast hp.hE hp.hA (hp.step j hj o ho)
theorem Places.mono {i j : Nat} (hij : i ≤ j) (hj : j ≤ N) : (D i).s.H.next ≤ (D j).s.H.next := by
  induction j with
  | zero => have : i = 0 := by omega
            subst this; exact Nat.le_refl _
  | succ j ih =>
    rcases Nat.lt_or_ge i (j + 1) with h | h
    · exact Nat.le_trans (ih (by omega) (by omega)) (hp.ast (by omega)).next
    · have : i = j + 1 := by omega
      subst this; exact Nat.le_refl _
theorem Places.same {j : Nat} (hj : j < N) {o : Oper} (ho : ops[j]? = some o) : (D (j + 1)).s.tm.length = (D j).s.tm.length ∧ (D (j + 1)).s.df = (D j).s.df ∧ (D (j + 1)).s.bm = (D j).s.bm ∧
    ∀ t, o.dst ≠ some t → (D (j + 1)).s.tm.getD t undef = (D j).s.tm.getD t undef := by
  have key : ∀ (tm : List Value) (v : Value), (putT tm o.dst v).length = tm.length ∧ ∀ t, o.dst ≠ some t → (putT tm o.dst v).getD t undef = tm.getD t undef := by
    intro tm v
    cases hd : o.dst with
    | none => simp [putT]
    | some d =>
      refine ⟨by simp [putT], fun t ht => ?_⟩
      have : d ≠ t := fun e => ht (by rw [e])
      simp [putT, List.getD_eq_getElem?_getD, List.getElem?_set_ne this]
  rcases stepD_inv (hp.step j hj o ho) with ⟨_, h1, _, _⟩ | ⟨_, v, s', q, h⟩
  · rw [h1]; exact ⟨(key _ _).1, rfl, rfl, (key _ _).2⟩
  · have h2 := oper_same (k := k) (i := j) h.op (hp.ok.kind j o ho)
    simp only [orEnd] at h2
    rw [h.s1]
    refine ⟨?_, h2.2.1, h2.2.2, ?_⟩
    · show (putT s'.tm o.dst v).length = _
      rw [(key _ _).1, h2.1]
    · intro t ht
      show (putT s'.tm o.dst v).getD t undef = _
      rw [(key _ _).2 t ht, h2.1]
theorem Places.lenN {j : Nat} (hj : j ≤ N) : (D j).s.tm.length = (D 0).s.tm.length ∧ (D j).s.df = (D 0).s.df ∧ (D j).s.bm = (D 0).s.bm := by
  induction j with
  | zero => exact ⟨rfl, rfl, rfl⟩
  | succ j ih =>
    obtain ⟨o, ho⟩ := hp.get (Nat.lt_of_succ_le hj)
    have h1 := hp.same (Nat.lt_of_succ_le hj) ho
    have h2 := ih (by omega)
    exact ⟨h1.1.trans h2.1, h1.2.1.trans h2.2.1, h1.2.2.1.trans h2.2.2⟩
/-- A temporary that nothing from i on writes. -/
theorem Places.tmSame {t i j : Nat} (hij : i ≤ j) (hj : j ≤ N) (h : ∀ x, i ≤ x → x < j → ∀ o, ops[x]? = some o → o.dst ≠ some t) : (D j).s.tm.getD t undef = (D i).s.tm.getD t undef := by
  induction j with
  | zero => have : i = 0 := by omega
            subst this; rfl
  | succ j ih =>
    rcases Nat.lt_or_ge i (j + 1) with h' | h'
    · obtain ⟨o, ho⟩ := hp.get (Nat.lt_of_succ_le hj)
      rw [(hp.same (Nat.lt_of_succ_le hj) ho).2.2.2 t (h j (by omega) (by omega) o ho)]
      exact ih (by omega) (by omega) fun x h1 h2 => h x h1 (by omega)
    · have : i = j + 1 := by omega
      subst this; rfl
/-- Is it one that is never out of turn? -/
def isX (ops : List Oper) (k i : Nat) : Prop := ∃ o, ops[i]? = some o ∧ (cls k i o.op = 3 ∨ cls k i o.op = 5)
omit hp in
theorem isX_iff {i : Nat} {o : Oper} (ho : ops[i]? = some o) : isX ops k i ↔ (cls k i o.op = 3 ∨ cls k i o.op = 5) :=
  ⟨fun ⟨o', h1, h2⟩ => by rw [ho] at h1; simp only [Option.some.injEq] at h1; subst h1; exact h2, fun h => ⟨o, ho, h⟩⟩
theorem Places.quiet {j : Nat} (hj : j < N) (hx : ¬ isX ops k j) : QSt (D j).s.H (D (j + 1)).s.H := by
  obtain ⟨o, ho⟩ := hp.get hj
  rw [isX_iff ho] at hx
  have hkind := hp.ok.kind j o ho
  rcases stepD_inv (hp.step j hj o ho) with ⟨_, h1, _, _⟩ | ⟨_, v, s', q, h⟩
  · rw [h1]; exact QSt.refl _
  · have hs : (D (j + 1)).s.H = s'.H := by rw [h.s1]
    rw [hs]
    have hq : q = true := by
      cases q with
      | true => rfl
      | false =>
        exfalso
        have hbit := h.bit rfl
        have hop := h.op
        unfold oper at hop
        rcases cls_or (k := k) (i := j) (op := o.op) with h0 | h0 | h0 | h0 | h0 | h0 | h0 | h0
        · rw [operE_opN (k := k) (i := j) (by simp [h0])] at hop
          obtain ⟨c1, c2, c3⟩ := cls0 (T := E.T) (e := opd (D j).s.tm) (H := (D j).s.H) h0
          simp only [opN, c1, c2, c3] at hop
          cases hpp : pureOp E.T (opd (D j).s.tm) o.op <;> simp [hpp] at hop
        · rw [operE_opN (k := k) (i := j) (by simp [h0])] at hop
          obtain ⟨c1, c2, c3⟩ := cls1 (T := E.T) (e := opd (D j).s.tm) (H := (D j).s.H) (.inl h0)
          simp only [opN, c1, c2, c3] at hop
          cases hpp : readOp E.T (opd (D j).s.tm) (D j).s.H o.op <;> simp [hpp] at hop
        · rw [operE_opN (k := k) (i := j) (by simp [h0])] at hop
          obtain ⟨c1, c2, c3⟩ := cls2 (T := E.T) (e := opd (D j).s.tm) (H := (D j).s.H) h0
          simp only [opN, c1, c2, c3] at hop
          cases hpp : allocOp E.T (opd (D j).s.tm) o.op <;> simp [hpp] at hop
        · exact hx (.inl h0)
        · rw [cls4_bit h0] at hbit; simp at hbit
        · exact hx (.inr h0)
        · rw [operE_opN (k := k) (i := j) (by simp [h0])] at hop
          obtain ⟨c1, c2, c3⟩ := cls1 (T := E.T) (e := opd (D j).s.tm) (H := (D j).s.H) (.inr h0)
          simp only [opN, c1, c2, c3] at hop
          cases hpp : readOp E.T (opd (D j).s.tm) (D j).s.H o.op <;> simp [hpp] at hop
        · exact hkind h0
    exact (oper_ast hp.hE hp.hA h.op).2 hq
/-- What was loaded stays noted; what was stored, too. -/
theorem Places.notes {i j : Nat} (hij : i ≤ j) (hj : j ≤ N) : (∀ x ∈ (D i).fs, x ∈ (D j).fs) ∧ (∀ x ∈ (D i).ss, x ∈ (D j).ss) := by
  induction j with
  | zero => have : i = 0 := by omega
            subst this; exact ⟨fun _ h => h, fun _ h => h⟩
  | succ j ih =>
    rcases Nat.lt_or_ge i (j + 1) with h' | h'
    · obtain ⟨o, ho⟩ := hp.get (Nat.lt_of_succ_le hj)
      obtain ⟨a1, a2⟩ := ih (by omega) (by omega)
      have hstep : (∀ x ∈ (D j).fs, x ∈ (D (j + 1)).fs) ∧ (∀ x ∈ (D j).ss, x ∈ (D (j + 1)).ss) := by
        rcases stepD_inv (hp.step j (Nat.lt_of_succ_le hj) o ho) with ⟨_, _, h2, h3⟩ | ⟨_, v, s', q, h⟩
        · rw [h2, h3]; exact ⟨fun _ h => h, fun _ h => h⟩
        · cases q with
          | true =>
            obtain ⟨h1, h2⟩ := h.fl rfl
            rw [h1]
            refine ⟨?_, fun _ h => h⟩
            rcases h2 with ⟨_, h2⟩ | ⟨b, cl, _, _, _, _, h2⟩
            · rw [h2]; exact fun _ h => h
            · rw [h2]; exact fun x hx => by simp [hx]
          | false =>
            obtain ⟨h1, h2⟩ := h.ef rfl
            rw [h1]
            refine ⟨fun _ h => h, ?_⟩
            rcases h2 with ⟨_, h2⟩ | ⟨b, _, _, h2⟩
            · rw [h2]; exact fun _ h => h
            · rw [h2]; exact fun x hx => by simp [hx]
      exact ⟨fun x hx => hstep.1 x (a1 x hx), fun x hx => hstep.2 x (a2 x hx)⟩
    · have : i = j + 1 := by omega
      subst this; exact ⟨fun _ h => h, fun _ h => h⟩
omit hp in
theorem hitS_mem {u b : Nat} {cl : Bool} : ∀ {l : List (Nat × Nat × Bool)}, hitS u b cl l = false → ∀ j c cl', (j, c, cl') ∈ l → u.testBit j = true → b ≠ c ∧ (cl = true ∨ cl' = true)
  | [], _, _, _, _, h, _ => by simp at h
  | (j0, c0, cl0) :: l, h, j, c, cl', hm, hu => by
    simp only [hitS] at h
    cases hh : (u.testBit j0 && (Nat.beq b c0 || !(cl || cl0))) with
    | true => rw [hh] at h; simp at h
    | false =>
      simp only [hh, cond_false] at h
      rcases List.mem_cons.1 hm with he | hm
      · simp only [Prod.mk.injEq] at he; obtain ⟨rfl, rfl, rfl⟩ := he
        rw [hu] at hh
        simp only [Bool.true_and, Bool.or_eq_false_iff] at hh
        refine ⟨fun e => by subst e; simp at hh, ?_⟩
        cases cl <;> cases cl' <;> simp_all
      · exact hitS_mem h j c cl' hm hu
omit hp in
theorem hitF_mem {j b : Nat} {cl : Bool} : ∀ {l : List (Nat × Nat × Bool)}, hitF j b cl l = false → ∀ u c cl', (u, c, cl') ∈ l → u.testBit j = true → b ≠ c ∧ (cl = true ∨ cl' = true)
  | [], _, _, _, _, h, _ => by simp at h
  | (u0, c0, cl0) :: l, h, u, c, cl', hm, hu => by
    simp only [hitF] at h
    cases hh : (u0.testBit j && (Nat.beq b c0 || !(cl || cl0))) with
    | true => rw [hh] at h; simp at h
    | false =>
      simp only [hh, cond_false] at h
      rcases List.mem_cons.1 hm with he | hm
      · simp only [Prod.mk.injEq] at he; obtain ⟨rfl, rfl, rfl⟩ := he
        rw [hu] at hh
        simp only [Bool.true_and, Bool.or_eq_false_iff] at hh
        refine ⟨fun e => by subst e; simp at hh, ?_⟩
        cases cl <;> cases cl' <;> simp_all
      · exact hitF_mem h u c cl' hm hu
end
end Go.U
end

section
namespace Go.U
set_option autoImplicit false

/-- A load sees the same. -/
theorem load_same {T : TT} {e : Operand → Option Value} {H H' : AH} {n0 : Nat} {t : TypeId} {x : Operand} {b : Nat} {cl : Bool} (hs : src e (.load t x) = some b) (hc : cleanL H b n0 = some cl)
    (h1 : H'.get b = H.get b) (h2 : cl = false → ∀ g, g < n0 → H'.gs.get g = H.gs.get g) : readOp T e H' (.load t x) = readOp T e H (.load t x) := by
  simp only [src] at hs
  split at hs <;> try (simp at hs; done)
  rename_i b' o' sp hx
  simp only [Option.some.injEq] at hs; subst hs
  have hcell : H'.cellsAt b' = H.cellsAt b' := by
    simp only [AH.cellsAt, h1]
    simp only [cleanL] at hc
    split at hc
    · rename_i cs tt hg; simp [hg]
    · rename_i cs tt g hg
      try rw [hg]
      cases hb : Nat.blt g n0 with
      | false => rw [hb] at hc; simp at hc
      | true =>
        rw [hb] at hc
        simp only [cond_true, Option.some.injEq] at hc
        simp only [h2 hc.symm g (blt_t hb)]
    · simp at hc
  cases sp with
  | none => cases hti : tget T t <;> simp [readOp, hx, hti, hcell]
  | some s => cases hti : tget T t <;> simp [readOp, hx, hti]

section
variable {E : Env} {r : Rec} {c : Ctx} {ops : List Oper} {k : Nat} {us : List Nat} {n0 : Nat} {D : Nat → SD} {N : Nat} (hp : Places E r c ops k us n0 D N)
include hp

/-- What a floating load reads is not touched by the effects that it goes with. -/
theorem Places.float {i : Nat} (hi : i < N) {o : Oper} (ho : ops[i]? = some o) (hcls : cls k i o.op = 1) (hw : wantedF ops (D i).s.tm o = some true) (hu : us.getD i 0 ≠ 0) :
    ∃ b cl, src (opd (D i).s.tm) o.op = some b ∧ cleanL (D i).s.H b n0 = some cl ∧ b < n0 ∧ ∀ j, j < N → isX ops k j → (∀ oj, ops[j]? = some oj → cls k j oj.op = 3) → (us.getD i 0).testBit j = true →
      (D (j + 1)).s.H.get b = (D j).s.H.get b ∧ (cl = false → ∀ g, g < n0 → (D (j + 1)).s.H.gs.get g = (D j).s.H.gs.get g) := by
  rcases stepD_inv (hp.step i hi o ho) with ⟨h1, _⟩ | ⟨_, v, s', q, h⟩
  · rw [hw] at h1; simp at h1
  · have hq : q = true := by
      have hop := h.op
      unfold oper at hop
      rw [operE_opN (k := k) (i := i) (by simp [hcls])] at hop
      obtain ⟨c1, c2, c3⟩ := cls1 (T := E.T) (e := opd (D i).s.tm) (H := (D i).s.H) (.inl hcls)
      simp only [opN, c1, c2, c3] at hop
      cases hpp : readOp E.T (opd (D i).s.tm) (D i).s.H o.op with
      | none => rw [hpp] at hop; simp at hop
      | some u => rw [hpp] at hop; simp only [Option.some.injEq, OR.val.injEq] at hop; exact hop.2.2.symm
    subst hq
    obtain ⟨hss, hfl⟩ := h.fl rfl
    rcases hfl with ⟨h2, _⟩ | ⟨b, cl, h2, h3, h4, h5, h6⟩
    · exact absurd h2 hu
    · refine ⟨b, cl, h2, h3, h4, fun j hj hx h3c hbit => ?_⟩
      obtain ⟨oj, hoj⟩ := hp.get hj
      have hc3 := h3c oj hoj
      have hji : j ≠ i := fun e => by
        subst e
        rw [ho] at hoj; simp only [Option.some.injEq] at hoj; subst hoj
        omega
      have hnx : n0 ≤ (D j).s.H.next := by have := hp.mono (Nat.zero_le j) (Nat.le_of_lt hj); rw [hp.n0] at this; exact this
      rcases stepD_inv (hp.step j hj oj hoj) with ⟨_, k1, _, _⟩ | ⟨_, v', s'', q', hh⟩
      · rw [k1]; exact ⟨rfl, fun _ _ _ => rfl⟩
      · have hs : (D (j + 1)).s.H = s''.H := by rw [hh.s1]
        rw [hs]
        have hop := hh.op
        unfold oper at hop
        rw [operE_opN (k := k) (i := j) (by simp [hc3])] at hop
        obtain ⟨c1, c2, c3⟩ := cls3 (T := E.T) (e := opd (D j).s.tm) (H := (D j).s.H) hc3
        simp only [opN, c1, c2, c3] at hop
        cases he : effOp E.T (opd (D j).s.tm) (D j).s.H oj.op with
        | none => rw [he] at hop; simp at hop
        | some p =>
          obtain ⟨v2, H2⟩ := p
          rw [he] at hop
          simp only [Option.some.injEq, OR.val.injEq] at hop
          obtain ⟨_, hs'', hq'⟩ := hop
          have hH2 : s''.H = H2 := by rw [← hs'']
          rw [hH2]
          subst hq'
          obtain ⟨t1, t2, t3⟩ := eff_tgt he
          obtain ⟨hfs, hef⟩ := hh.ef rfl
          rcases hef with ⟨k1, _⟩ | ⟨b', k1, k2, k3⟩
          · exact ⟨t1 b (by omega) (by rw [k1]; simp), fun _ g hg => t3 k1 g (by omega)⟩
          · have hne : b ≠ b' ∧ (cl = true ∨ cleanE (D j).s.H b' oj.op = true) := by
              rcases Nat.lt_or_ge j i with hlt | hge
              · have hm := (hp.notes (i := j + 1) (j := i) hlt (Nat.le_of_lt hi)).2 (j, b', cleanE (D j).s.H b' oj.op) (by rw [k3]; simp)
                exact hitS_mem h5 j b' _ hm hbit
              · have hm := (hp.notes (i := i + 1) (j := j) (by omega) (Nat.le_of_lt hj)).1 (us.getD i 0, b, cl) (by rw [h6]; simp)
                obtain ⟨z1, z2⟩ := hitF_mem k2 _ b cl hm hbit
                exact ⟨fun e => z1 e.symm, z2.symm⟩
            refine ⟨t1 b (by omega) (by rw [k1]; simp only [ne_eq, Option.some.injEq]; exact fun e => hne.1 e.symm), fun hcl g _ => ?_⟩
            rcases hne.2 with h | h
            · rw [hcl] at h; simp at h
            · rw [t2 b' k1 h]

/-- A load between places that do not touch what it reads. -/
theorem Places.floatRange {i lo hi : Nat} (hi' : i < N) {o : Oper} (ho : ops[i]? = some o) (hcls : cls k i o.op = 1) (hw : wantedF ops (D i).s.tm o = some true) (hlo : lo ≤ hi) (hhi : hi ≤ N)
    (hx : ∀ j, lo ≤ j → j < hi → isX ops k j → (∀ oj, ops[j]? = some oj → cls k j oj.op = 3) ∧ (us.getD i 0).testBit j = true) (hu : us.getD i 0 ≠ 0) :
    ∃ b cl, src (opd (D i).s.tm) o.op = some b ∧ cleanL (D i).s.H b n0 = some cl ∧ b < n0 ∧ (D hi).s.H.get b = (D lo).s.H.get b ∧ (cl = false → ∀ g, g < n0 → (D hi).s.H.gs.get g = (D lo).s.H.gs.get g) := by
  obtain ⟨b, cl, h1, h2, h3, h4⟩ := hp.float hi' ho hcls hw hu
  refine ⟨b, cl, h1, h2, h3, ?_⟩
  induction hi with
  | zero => have : lo = 0 := by omega
            subst this; exact ⟨rfl, fun _ _ _ => rfl⟩
  | succ hi ih =>
    rcases Nat.lt_or_ge lo (hi + 1) with h | h
    · obtain ⟨k1, k2⟩ := ih (by omega) (by omega) fun j a1 a2 => hx j a1 (by omega)
      have hnx : n0 ≤ (D hi).s.H.next := by have := hp.mono (Nat.zero_le hi) (by omega); rw [hp.n0] at this; exact this
      have hstep : (D (hi + 1)).s.H.get b = (D hi).s.H.get b ∧ (cl = false → ∀ g, g < n0 → (D (hi + 1)).s.H.gs.get g = (D hi).s.H.gs.get g) := by
        by_cases hxx : isX ops k hi
        · obtain ⟨a1, a2⟩ := hx hi (by omega) (by omega) hxx
          exact h4 hi (by omega) hxx a1 a2
        · have hq := hp.quiet (by omega : hi < N) hxx
          exact ⟨(hq.keep b (by omega)).1, fun _ g hg => (hq.keep g (by omega)).2⟩
      exact ⟨hstep.1.trans k1, fun hcl g hg => (hstep.2 hcl g hg).trans (k2 hcl g hg)⟩
    · have : lo = hi + 1 := by omega
      subst this; exact ⟨rfl, fun _ _ _ => rfl⟩
theorem Places.lowSame {p q : Nat} (hpq : p ≤ q) (hq : q ≤ N) (hn : ∀ i, p ≤ i → i < q → ¬ isX ops k i) : (D q).s.H.low = (D p).s.H.low := by
  induction q with
  | zero => have : p = 0 := by omega
            subst this; rfl
  | succ q ih =>
    rcases Nat.lt_or_ge p (q + 1) with h | h
    · rw [(hp.quiet (by omega : q < N) (hn q (by omega) (by omega))).low]
      exact ih (by omega) (by omega) fun i h1 h2 => hn i h1 (by omega)
    · have : p = q + 1 := by omega
      subst this; rfl
end

/-- Where a run of the region stands: 'listed' have been run; all that is never out of turn below p, and nothing of it from p on; q: the next of it. -/
structure Inv (K : KK) (P : Program) (ops : List Oper) (k n0 : Nat) (D : Nat → SD) (N : Nat) (m0 : Ren) (w0 : World) (ds0 : List Deferred) (m : Ren) (a : Act) (w : World) (listed : Array Bool) (p q : Nat) : Prop where
  pq : p ≤ q
  qN : q ≤ N
  qx : q < N → isX ops k q
  px : p = 0 ∨ isX ops k (p - 1)
  no : ∀ i, p ≤ i → i < q → ¬ isX ops k i
  xs : ∀ i, i < ops.length → isX ops k i → (listed.getD i false = true ↔ i < p)
  rel : Rel K P (m.cut (D p).s.H.next) (D p).s.H w
  chunk : ∀ i, p ≤ i → i < N → listed.getD i false = true → Chunk K P m (D i).s.H.next (D (i + 1)).s.H.next (D (i + 1)).s.H w
  unb : ∀ i, p ≤ i → i < N → listed.getD i false = false → ∀ b, (D i).s.H.next ≤ b → b < (D (i + 1)).s.H.next → m.ρ b = none
  dom : ∀ b x, m.ρ b = some x → b < (D N).s.H.next
  tdst : ∀ i o t, i < N → ops[i]? = some o → listed.getD i false = true → o.dst = some t → VR (m.cut (max (D (i + 1)).s.H.next (D p).s.H.next)) ((D (i + 1)).s.tm.getD t undef) (a.tmps.getD t undef)
  told : ∀ t, (∀ i o, ops[i]? = some o → listed.getD i false = true → o.dst ≠ some t) → VR (m.cut n0) ((D 0).s.tm.getD t undef) (a.tmps.getD t undef)
  tsz : a.tmps.size = (D 0).s.tm.length
  defs : a.defers = ds0
  cst : CSt m0 w0 n0 (D p).s.H.low m w
  closed : ∀ j o, ops[j]? = some o → listed.getD j false = true → ∀ e ∈ o.after.toList, Region.binds .any e = true → listed.getD e.on false = true
  lsz : listed.size = ops.length

theorem nextX (ops : List Oper) (k : Nat) (N : Nat) : ∀ (n p : Nat), N - p = n → p ≤ N → ∃ q, p ≤ q ∧ q ≤ N ∧ (q < N → isX ops k q) ∧ ∀ i, p ≤ i → i < q → ¬ isX ops k i := by
  intro n
  induction n with
  | zero => intro p h hp; exact ⟨p, Nat.le_refl _, hp, fun h' => by omega, fun i h1 h2 => by omega⟩
  | succ n ih =>
    intro p h hp
    by_cases hx : isX ops k p
    · exact ⟨p, Nat.le_refl _, hp, fun _ => hx, fun i h1 h2 => by omega⟩
    · obtain ⟨q, h1, h2, h3, h4⟩ := ih (p + 1) (by omega) (by omega)
      refine ⟨q, by omega, h2, h3, fun i h5 h6 => ?_⟩
      rcases Nat.lt_or_ge p i with h | h
      · exact h4 i (by omega) h6
      · have : i = p := by omega
        subst this; exact hx

section
variable {K : KK} {P : Program} {E : Env} {r : Rec} {c : Ctx} {ops : List Oper} {k : Nat} {us : List Nat} {n0 : Nat} {D : Nat → SD} {N : Nat} (hp : Places E r c ops k us n0 D N)
  {m0 m : Ren} {w0 w : World} {ds0 : List Deferred} {a : Act} {listed : Array Bool} {p q : Nat} (I : Inv K P ops k n0 D N m0 w0 ds0 m a w listed p q)
include hp I

theorem Inv.relAt {i : Nat} (h1 : p ≤ i) (h2 : i ≤ q) : Rel K P (m.cut (D i).s.H.next) (D i).s.H w := by
  induction i with
  | zero => have : p = 0 := by omega
            subst this; exact I.rel
  | succ i ih =>
    rcases Nat.lt_or_ge p (i + 1) with h | h
    · have hR := ih (by omega) (by omega)
      have hiN : i < N := Nat.lt_of_lt_of_le (Nat.lt_of_succ_le h2) I.qN
      have hq := hp.quiet hiN (I.no i (by omega) (by omega))
      cases hl : listed.getD i false with
      | true => exact hR.ext rfl hq (I.chunk i (by omega) hiN hl)
      | false => exact hR.ext0 rfl hq (I.unb i (by omega) hiN hl)
    · have : p = i + 1 := by omega
      subst this; exact I.rel
omit hp in
theorem listed_set {i j : Nat} (hi : i < ops.length) : (listed.setIfInBounds i true).getD j false = (if i = j then true else listed.getD j false) := by
  by_cases h : i = j
  · subst h
    have : i < listed.size := by rw [I.lsz]; exact hi
    simp [Array.getD_eq_getD_getElem?, this]
  · simp [Array.getD_eq_getD_getElem?, Array.getElem?_setIfInBounds_ne h, h]

/-- Who is ready and comes in its turn. -/
structure Ready (ops : List Oper) (listed : Array Bool) (i : Nat) (o : Oper) : Prop where
  lt : i < ops.length
  get : ops[i]? = some o
  un : listed.getD i false = false
  ed : ∀ e ∈ o.after.toList, Region.binds .any e = true → listed.getD e.on false = true

variable {i : Nat} {o : Oper} (hr : Ready ops listed i o)
include hr
omit hp in
/-- Who comes before has been run. -/
theorem Inv.before {j : Nat} (hb : ((befs ops []).getD i 0).testBit j = true) : j = i ∨ listed.getD j false = true := by
  have := closed_bit (ops := ops) (S := fun j => j = i ∨ listed.getD j false = true) (fun j o' ho' hj e he hbe => by
    rcases hj with rfl | hj
    · rw [hr.get] at ho'; simp only [Option.some.injEq] at ho'; subst ho'
      exact .inr (hr.ed e he hbe)
    · exact .inr (I.closed j o' ho' hj e he hbe)) i o hr.get (.inl rfl) j hb
  exact this
omit hp hr in
theorem Inv.before' {j j' : Nat} {o' : Oper} (ho' : ops[j']? = some o') (hj' : listed.getD j' false = true) (hb : ((befs ops []).getD j' 0).testBit j = true) : listed.getD j false = true :=
  closed_bit (ops := ops) (S := fun j => listed.getD j false = true) (fun j o' ho' hj e he hbe => I.closed j o' ho' hj e he hbe) j' o' ho' hj' j hb

/-- An earlier one that is not ordered with this one, or was run. -/
theorem Inv.early {j : Nat} (hj : j < i) {oj : Oper} (hoj : ops[j]? = some oj) : listed.getD j false = true ∨
    (pairOK (cls k j oj.op) (cls k i o.op) ((us.getD j 0).testBit i) ((us.getD i 0).testBit j) = true ∧ (∀ t, oj.dst = some t → t ∉ namesOf ops o) ∧ (∀ t, o.dst = some t → t ∉ namesOf ops oj)) := by
  rcases hp.ok.pair j i oj o hj hoj hr.get with h | h
  · rcases I.before hr h with h' | h'
    · omega
    · exact .inl h'
  · exact .inr h
/-- A later one that is not ordered with this one, or was not run. -/
theorem Inv.late {j : Nat} (hj : i < j) {oj : Oper} (hoj : ops[j]? = some oj) : listed.getD j false = false ∨
    (pairOK (cls k i o.op) (cls k j oj.op) ((us.getD i 0).testBit j) ((us.getD j 0).testBit i) = true ∧ (∀ t, o.dst = some t → t ∉ namesOf ops oj) ∧ (∀ t, oj.dst = some t → t ∉ namesOf ops o)) := by
  rcases hp.ok.pair i j o oj hj hr.get hoj with h | h
  · left
    cases hl : listed.getD j false with
    | false => rfl
    | true =>
      have := I.before' hoj hl h
      rw [hr.un] at this; simp at this
  · exact .inr h

/-- What an operation looks at is known. -/
theorem Inv.names (hiN : i ≤ N) {t : Tmp} (ht : t ∈ namesOf ops o) : VR (m.cut (max (D i).s.H.next (D p).s.H.next)) ((D i).s.tm.getD t undef) (a.tmps.getD t undef) := by
  by_cases hw : ∃ j oj, j < N ∧ ops[j]? = some oj ∧ oj.dst = some t ∧ j < i
  · obtain ⟨j, oj, hjN, hoj, hd, hji⟩ := hw
    have hrun : listed.getD j false = true := by
      rcases I.early hp hr hji hoj with h | ⟨_, h, _⟩
      · exact h
      · exact absurd ht (h t hd)
    have h1 := I.tdst j oj t hjN hoj hrun hd
    have h2 : (D i).s.tm.getD t undef = (D (j + 1)).s.tm.getD t undef := hp.tmSame hji hiN fun x hx1 hx2 ox hox hdx => by
      exact hp.ok.dst j x oj ox (by omega) hoj hox t hd hdx
    rw [h2]
    refine h1.mono (Ren.cut_mono (Ren.Le.refl m) ?_)
    have := hp.mono (i := j + 1) (j := i) hji hiN
    omega
  · have h2 : (D i).s.tm.getD t undef = (D 0).s.tm.getD t undef := hp.tmSame (Nat.zero_le _) hiN fun x _ hx2 ox hox hdx => hw ⟨x, ox, by omega, hox, hdx, hx2⟩
    rw [h2]
    have h3 := I.told t fun j oj hoj hl hd => by
      rcases Nat.lt_trichotomy j i with h | h | h
      · exact hw ⟨j, oj, by omega, hoj, hd, h⟩
      · subst h; rw [hr.un] at hl; simp at hl
      · rcases I.late hp hr h hoj with h' | ⟨_, _, h'⟩
        · rw [hl] at h'; simp at h'
        · exact h' t hd ht
    refine h3.mono (Ren.cut_mono (Ren.Le.refl m) ?_)
    have := hp.mono (Nat.zero_le i) hiN
    rw [hp.n0] at this
    omega
/-- Its operands, at any level that is high enough. -/
theorem Inv.opds (hiN : i ≤ N) {n : Nat} (hn : max (D i).s.H.next (D p).s.H.next ≤ n) : ∃ e1 : Operand → Option Value, (∀ x ∈ o.op.operands.toList, e1 x = opd (D i).s.tm x) ∧ OpdR (m.cut n) e1 a.eval := by
  classical
  refine ⟨fun x => if x ∈ o.op.operands.toList then opd (D i).s.tm x else none, fun x hx => by simp [hx], fun x v hx => ?_⟩
  by_cases hm : x ∈ o.op.operands.toList
  · simp only [hm, if_true] at hx
    cases x with
    | tmp t =>
      simp only [opd, Option.some.injEq] at hx
      subst hx
      have ht : t ∈ namesOf ops o := by
        simp only [namesOf, List.mem_append, List.mem_filterMap]
        exact .inl ⟨.tmp t, hm, rfl⟩
      have := (I.names hp hr hiN ht).mono (Ren.cut_mono (Ren.Le.refl m) hn)
      simpa [Act.eval] using this
    | const cc =>
      simp only [opd] at hx
      cases hpl : plainV cc with
      | false => simp [hpl] at hx
      | true => simp [hpl] at hx; subst hx; exact VR.flat _ _ (plain_flat _ hpl)
    | func f => simp only [opd, Option.some.injEq] at hx; subst hx; exact .func _ _ _ _ _ rfl .nil .nil
    | global g => simp [opd] at hx
  · simp [hm] at hx
end
end Go.U
end

section
namespace Go.U
set_option autoImplicit false

section
variable {K : KK} {P : Program} {E : Env} {r : Rec} {c : Ctx} {ops : List Oper} {k : Nat} {us : List Nat} {n0 : Nat} {D : Nat → SD} {N : Nat} (hp : Places E r c ops k us n0 D N)
  {m0 m : Ren} {w0 w : World} {ds0 : List Deferred} {a : Act} {listed : Array Bool} {p q : Nat} (I : Inv K P ops k n0 D N m0 w0 ds0 m a w listed p q)
  {i : Nat} {o : Oper} (hr : Ready ops listed i o)
include hp I hr

/-- One that is never out of turn is the next of these. -/
theorem Inv.isq (hx : isX ops k i) (hN : N = ops.length ∨ i ≤ N) : i = q := by
  have h1 : p ≤ i := by
    rcases Nat.lt_or_ge i p with h | h
    · have := (I.xs i hr.lt hx).2 h
      rw [hr.un] at this; simp at this
    · exact h
  have h2 : q ≤ i := by
    rcases Nat.lt_or_ge i q with h | h
    · exact absurd hx (I.no i h1 h)
    · exact h
  rcases Nat.lt_or_ge q i with h | h
  · exfalso
    have hqN : q < N := by
      rcases hN with h' | h'
      · rw [h']; exact Nat.lt_trans h hr.lt
      · omega
    obtain ⟨oq, hoq, hcq⟩ := I.qx hqN
    rw [isX_iff hr.get] at hx
    rcases I.early hp hr h hoq with h' | ⟨h', _⟩
    · have := (I.xs q (by have := hr.lt; omega) ⟨oq, hoq, hcq⟩).1 h'
      have := I.pq
      omega
    · rcases hcq with hcq | hcq <;> rcases hx with hx | hx <;> rw [hcq, hx] at h' <;> simp [pairOK] at h'
  · omega
/-- The last of these that was run. -/
theorem Inv.last (h : i < p) : ∃ oj, ops[p - 1]? = some oj ∧ (cls k (p - 1) oj.op = 3 ∨ cls k (p - 1) oj.op = 5) ∧ i < p - 1 ∧ listed.getD (p - 1) false = true := by
  rcases I.px with h' | h'
  · omega
  · obtain ⟨oj, hoj, hcj⟩ := h'
    have hl : p - 1 < ops.length := (List.getElem?_eq_some_iff.1 hoj).1
    have hrun := (I.xs (p - 1) hl ⟨oj, hoj, hcj⟩).2 (by omega)
    refine ⟨oj, hoj, hcj, ?_, hrun⟩
    rcases Nat.lt_or_ge i (p - 1) with h2 | h2
    · exact h2
    · have : i = p - 1 := by omega
      subst this
      rw [hr.un] at hrun; simp at hrun
/-- Who must come before the ones that are never out of turn is not late. -/
theorem Inv.notLate (h : ∀ j oj, ops[j]? = some oj → (cls k j oj.op = 3 ∨ cls k j oj.op = 5) → pairOK (cls k i o.op) (cls k j oj.op) ((us.getD i 0).testBit j) ((us.getD j 0).testBit i) = false) : p ≤ i := by
  rcases Nat.lt_or_ge i p with h' | h'
  · exfalso
    obtain ⟨oj, hoj, hcj, hij, hrun⟩ := I.last hp hr h'
    rcases I.late hp hr hij hoj with h2 | ⟨h2, _⟩
    · rw [hrun] at h2; simp at h2
    · rw [h _ oj hoj hcj] at h2; simp at h2
  · exact h'
/-- Who must come behind them is not early. -/
theorem Inv.notEarly (hiN : i < N) (h : ∀ j oj, ops[j]? = some oj → (cls k j oj.op = 3 ∨ cls k j oj.op = 5) → pairOK (cls k j oj.op) (cls k i o.op) ((us.getD j 0).testBit i) ((us.getD i 0).testBit j) = false) : i ≤ q := by
  rcases Nat.lt_or_ge q i with h' | h'
  · exfalso
    obtain ⟨oq, hoq, hcq⟩ := I.qx (by omega)
    rcases I.early hp hr h' hoq with h2 | ⟨h2, _⟩
    · have := (I.xs q (by have := hr.lt; omega) ⟨oq, hoq, hcq⟩).1 h2
      have := I.pq
      omega
    · rw [h _ oq hoq hcq] at h2; simp at h2
  · exact h'

omit hp in
theorem tmps_put (v' : Value) (t : Tmp) (h : o.dst ≠ some t) : (a.put o.dst v').tmps.getD t undef = a.tmps.getD t undef := by
  cases hd : o.dst with
  | none => rfl
  | some d =>
    have hne : d ≠ t := fun e => h (by rw [hd, e])
    simp [Act.put, Array.getD_eq_getD_getElem?, Array.getElem?_setIfInBounds_ne hne]
omit hp hr in
theorem tmps_put_same (v v' : Value) {mm : Ren} (hv : VR mm v v') (t : Tmp) (tm : List Value) (hl : tm.length = (D 0).s.tm.length) (hd : o.dst = some t) : VR mm ((putT tm o.dst v).getD t undef) ((a.put o.dst v').tmps.getD t undef) := by
  rw [hd]
  by_cases ht : t < tm.length
  · have ht' : t < a.tmps.size := by rw [I.tsz, ← hl]; exact ht
    simp [putT, Act.put, List.getD_eq_getElem?_getD, Array.getD_eq_getD_getElem?, ht, ht', hv]
  · have ht' : ¬ t < a.tmps.size := by rw [I.tsz, ← hl]; exact ht
    simp [putT, Act.put, List.getD_eq_getElem?_getD, Array.getD_eq_getD_getElem?, ht, ht']
    exact VR.undef mm

/-- One more, that changes nothing that lay. -/
theorem Inv.finishQ (hiN : i < N) (hx : ¬ isX ops k i) {m' : Ren} {w' : World} {v v' : Value} (hle : m.Le m')
    (hout : ∀ b, b < (D i).s.H.next ∨ (D (i + 1)).s.H.next ≤ b → m'.ρ b = m.ρ b)
    (hnew : ∀ b x, (D i).s.H.next ≤ b → b < (D (i + 1)).s.H.next → m'.ρ b = some x → w.heap.size ≤ x)
    (hch : p ≤ i → Chunk K P m' (D i).s.H.next (D (i + 1)).s.H.next (D (i + 1)).s.H w') (hlt : i < p → ∀ b, m'.ρ b = m.ρ b)
    (hsz : w.heap.size ≤ w'.heap.size) (hw : ∀ x, x < w.heap.size → w'.heap[x]? = w.heap[x]?) (hob : w'.os = w.os ∧ w'.output = w.output)
    (htm : ∀ t, o.dst = some t → (D (i + 1)).s.tm.getD t undef = (putT (D i).s.tm o.dst v).getD t undef)
    (hv : VR (m'.cut (max (D (i + 1)).s.H.next (D p).s.H.next)) v v') :
    Inv K P ops k n0 D N m0 w0 ds0 m' (a.put o.dst v') w' (listed.setIfInBounds i true) p q := by
  have hls : ∀ j, (listed.setIfInBounds i true).getD j false = (if i = j then true else listed.getD j false) := fun j => listed_set I hr.lt
  have hmono : (D 0).s.H.next ≤ (D i).s.H.next := hp.mono (Nat.zero_le i) (Nat.le_of_lt hiN)
  rw [hp.n0] at hmono
  have hnxt : (D i).s.H.next ≤ (D (i + 1)).s.H.next := (hp.ast hiN).next
  have hnN : (D (i + 1)).s.H.next ≤ (D N).s.H.next := hp.mono hiN (Nat.le_refl _)
  have hbnd : ∀ b x, b < (D p).s.H.next → m.ρ b = some x → x < w.heap.size := fun b x h1 h2 => I.rel.bnd b x (Ren.cut_some.2 ⟨h1, h2⟩)
  -- other chunks' names are others
  have hoth : ∀ j, j < N → j ≠ i → ∀ b, (D j).s.H.next ≤ b → b < (D (j + 1)).s.H.next → m'.ρ b = m.ρ b := by
    intro j hj hji b h1 h2
    apply hout
    rcases Nat.lt_or_ge j i with h | h
    · left; have := hp.mono (i := j + 1) (j := i) h (Nat.le_of_lt hiN); omega
    · right; have := hp.mono (i := i + 1) (j := j) (by omega) (Nat.le_of_lt hj); omega
  have hcutp : ∀ b x, (m'.cut (D p).s.H.next).ρ b = some x → (m.cut (D p).s.H.next).ρ b = some x := by
    intro b x hb
    obtain ⟨h1, h2⟩ := Ren.cut_some.1 hb
    refine Ren.cut_some.2 ⟨h1, ?_⟩
    rcases Nat.lt_or_ge i p with h | h
    · rw [hlt h b] at h2; exact h2
    · have := hp.mono (i := p) (j := i) h (Nat.le_of_lt hiN)
      rw [hout b (.inl (by omega))] at h2; exact h2
  refine ⟨I.pq, I.qN, I.qx, I.px, I.no, ?_, ?_, ?_, ?_, ?_, ?_, ?_, ?_, ?_, ?_, ?_, by rw [Array.size_setIfInBounds]; exact I.lsz⟩
  · intro j hj hxj
    have hij : i ≠ j := fun e => hx (e ▸ hxj)
    rw [hls, if_neg hij]; exact I.xs j hj hxj
  · exact (I.rel.world hsz hw hob).ren (Ren.cut_mono hle (Nat.le_refl _)) hcutp
  · intro j hpj hjN hl
    rw [hls] at hl
    by_cases hij : i = j
    · subst hij; exact hch hpj
    · rw [if_neg hij] at hl
      have hc := I.chunk j hpj hjN hl
      refine hc.keep hle hsz (hoth j hjN (Ne.symm hij)) (fun b x h1 h2 h3 => hw x (hc.bnd b x h1 h2 h3)) fun b x cc h1 h2 h3 h4 h5 => ?_
      rcases Nat.lt_or_ge cc (D i).s.H.next with h6 | h6
      · rw [hout cc (.inl h6)] at h5; exact h5
      · rcases Nat.lt_or_ge cc (D (i + 1)).s.H.next with h7 | h7
        · have := hnew cc x h6 h7 h5
          have := hc.bnd b x h1 h2 h3
          omega
        · rw [hout cc (.inr h7)] at h5; exact h5
  · intro j hpj hjN hl b h1 h2
    rw [hls] at hl
    by_cases hij : i = j
    · rw [if_pos hij] at hl; simp at hl
    · rw [if_neg hij] at hl
      rw [hoth j hjN (Ne.symm hij) b h1 h2]
      exact I.unb j hpj hjN hl b h1 h2
  · intro b x hb
    rcases Nat.lt_or_ge b (D i).s.H.next with h6 | h6
    · omega
    · rcases Nat.lt_or_ge b (D (i + 1)).s.H.next with h7 | h7
      · omega
      · rw [hout b (.inr h7)] at hb; exact I.dom b x hb
  · intro j oj t hjN hoj hl hd
    rw [hls] at hl
    by_cases hij : i = j
    · subst hij
      rw [hr.get] at hoj; simp only [Option.some.injEq] at hoj; subst hoj
      rw [htm t hd]
      exact tmps_put_same I v v' hv t _ (hp.lenN (Nat.le_of_lt hiN)).1 hd
    · rw [if_neg hij] at hl
      have hne : o.dst ≠ some t := fun e => by
        rcases Nat.lt_trichotomy i j with h | h | h
        · exact hp.ok.dst i j o oj h hr.get hoj t e hd
        · exact hij h
        · exact hp.ok.dst j i oj o h hoj hr.get t hd e
      rw [tmps_put I hr v' t hne]
      exact (I.tdst j oj t hjN hoj hl hd).mono (Ren.cut_mono hle (Nat.le_refl _))
  · intro t ht
    have hne : o.dst ≠ some t := ht i o hr.get (by rw [hls, if_pos rfl])
    rw [tmps_put I hr v' t hne]
    refine (I.told t fun j oj hoj hl => ht j oj hoj ?_).mono (Ren.cut_mono hle (Nat.le_refl _))
    rw [hls, hl]; simp
  · cases hd : o.dst with
    | none => exact I.tsz
    | some d => simp [Act.put, I.tsz]
  · rw [put_defers]; exact I.defs
  · refine I.cst.trans (n1 := (D i).s.H.next) (low1 := (D p).s.H.low) ⟨hle, fun b x h1 h2 => ?_, hsz, fun x hx _ => hw x hx, fun b x h1 h2 h3 => ?_⟩ hmono (Nat.le_refl _)
    · rcases Nat.lt_or_ge b (D i).s.H.next with h6 | h6
      · rw [hout b (.inl h6), h2] at h1; simp at h1
      · exact h6
    · rcases Nat.lt_or_ge b (D i).s.H.next with h6 | h6
      · rw [hout b (.inl h6), h2] at h1; simp at h1
      · rcases Nat.lt_or_ge b (D (i + 1)).s.H.next with h7 | h7
        · have := hnew b x h6 h7 h1; omega
        · rw [hout b (.inr h7), h2] at h1; simp at h1
  · intro j oj hoj hl e he hb
    rw [hls] at hl ⊢
    by_cases hie : i = e.on
    · rw [if_pos hie]
    · rw [if_neg hie]
      by_cases hij : i = j
      · subst hij
        rw [hr.get] at hoj; simp only [Option.some.injEq] at hoj; subst hoj
        exact hr.ed e he hb
      · rw [if_neg hij] at hl
        exact I.closed j oj hoj hl e he hb

/-- One more, never out of turn. -/
theorem Inv.finishX (hiN : q < N) (hiq : i = q) {m1 : Ren} {w1 : World} {v v' : Value}
    (hR1 : Rel K P m1 (D (q + 1)).s.H w1) (hC1 : CSt (m.cut (D q).s.H.next) w (D q).s.H.next (D (q + 1)).s.H.low m1 w1)
    (htm : ∀ t, o.dst = some t → (D (q + 1)).s.tm.getD t undef = (putT (D q).s.tm o.dst v).getD t undef) (hv : VR m1 v v') :
    ∃ m' q', Inv K P ops k n0 D N m0 w0 ds0 m' (a.put o.dst v') w1 (listed.setIfInBounds i true) (q + 1) q' := by
  subst hiq
  have hls : ∀ j, (listed.setIfInBounds i true).getD j false = (if i = j then true else listed.getD j false) := fun j => listed_set I hr.lt
  have hmono : (D 0).s.H.next ≤ (D i).s.H.next := hp.mono (Nat.zero_le i) (Nat.le_of_lt hiN)
  rw [hp.n0] at hmono
  have hnxt : (D i).s.H.next ≤ (D (i + 1)).s.H.next := (hp.ast hiN).next
  have hnN : (D (i + 1)).s.H.next ≤ (D N).s.H.next := hp.mono hiN (Nat.le_refl _)
  have hpq := I.pq
  have hpn : (D p).s.H.next ≤ (D i).s.H.next := hp.mono hpq (Nat.le_of_lt hiN)
  have hun := I.unb i hpq hiN hr.un
  have hle : m.Le (m.join m1 (D i).s.H.next (D (i + 1)).s.H.next) := Ren.join_le hun
  have hle1 : m1.Le ((m.join m1 (D i).s.H.next (D (i + 1)).s.H.next).cut (D (i + 1)).s.H.next) := Ren.le_join hC1.le hC1.new hR1.dom
  have hback : ∀ {b x : Nat}, ((m.join m1 (D i).s.H.next (D (i + 1)).s.H.next).cut (D (i + 1)).s.H.next).ρ b = some x → m1.ρ b = some x := fun h => Ren.join_back hC1.le h
  obtain ⟨q', hq1, hq2, hq3, hq4⟩ := nextX ops k N _ (i + 1) rfl hiN
  have hcutn : ∀ b, (D i).s.H.next ≤ b → (m.cut (D i).s.H.next).ρ b = none := fun b hb => by
    cases hc : (m.cut (D i).s.H.next).ρ b with
    | none => rfl
    | some y => have := (Ren.cut_some.1 hc).1; omega
  refine ⟨m.join m1 (D i).s.H.next (D (i + 1)).s.H.next, q', hq1, hq2, hq3, .inr (by simpa using I.qx hiN), hq4, ?_, ?_, ?_, ?_, ?_, ?_, ?_, ?_, ?_, ?_, ?_, by rw [Array.size_setIfInBounds]; exact I.lsz⟩
  · intro j hj hxj
    rw [hls]
    by_cases hij : i = j
    · subst hij; simp
    · rw [if_neg hij, I.xs j hj hxj]
      constructor
      · intro h; omega
      · intro h
        rcases Nat.lt_or_ge j p with h' | h'
        · exact h'
        · exact absurd hxj (I.no j h' (by omega))
  · exact hR1.ren hle1 fun b x hb => hback hb
  · intro j hpj hjN hl
    rw [hls, if_neg (by omega)] at hl
    have hc := I.chunk j (by omega) hjN hl
    have hnj : (D (i + 1)).s.H.next ≤ (D j).s.H.next := hp.mono hpj (Nat.le_of_lt hjN)
    refine hc.keep hle hC1.size (fun b h1 h2 => Ren.join_out (.inr (by omega))) (fun b x h1 h2 h3 => ?_) fun b x cc h1 h2 h3 h4 h5 => ?_
    · refine hC1.frame x (hc.bnd b x h1 h2 h3) fun b0 hb0 => ?_
      obtain ⟨k1, k2⟩ := Ren.cut_some.1 hb0
      exact absurd k2 (hc.sep b x b0 h1 h2 h3 (by omega))
    · rcases Nat.lt_or_ge cc (D i).s.H.next with h6 | h6
      · rw [Ren.join_out (.inl h6)] at h5; exact h5
      · rcases Nat.lt_or_ge cc (D (i + 1)).s.H.next with h7 | h7
        · rw [Ren.join_in h6 h7] at h5
          obtain ⟨b0, k1, _⟩ := hC1.fresh cc x h5 (hcutn cc h6) (hc.bnd b x h1 h2 h3)
          obtain ⟨k2, k3⟩ := Ren.cut_some.1 k1
          exact absurd k3 (hc.sep b x b0 h1 h2 h3 (by omega))
        · rw [Ren.join_out (.inr h7)] at h5; exact h5
  · intro j hpj hjN hl b h1 h2
    rw [hls, if_neg (by omega)] at hl
    have hnj : (D (i + 1)).s.H.next ≤ (D j).s.H.next := hp.mono hpj (Nat.le_of_lt hjN)
    rw [Ren.join_out (.inr (by omega))]
    exact I.unb j (by omega) hjN hl b h1 h2
  · intro b x hb
    rcases Nat.lt_or_ge b (D (i + 1)).s.H.next with h7 | h7
    · omega
    · rw [Ren.join_out (.inr h7)] at hb; exact I.dom b x hb
  · intro j oj t hjN hoj hl hd
    rw [hls] at hl
    by_cases hij : i = j
    · subst hij
      rw [hr.get] at hoj; simp only [Option.some.injEq] at hoj; subst hoj
      rw [htm t hd]
      refine tmps_put_same I v v' (hv.mono (hle1.trans (Ren.cut_mono (Ren.Le.refl _) ?_))) t _ (hp.lenN (Nat.le_of_lt hiN)).1 hd
      omega
    · rw [if_neg hij] at hl
      have hne : o.dst ≠ some t := fun e => by
        rcases Nat.lt_trichotomy i j with h | h | h
        · exact hp.ok.dst i j o oj h hr.get hoj t e hd
        · exact hij h
        · exact hp.ok.dst j i oj o h hoj hr.get t hd e
      rw [tmps_put I hr v' t hne]
      refine (I.tdst j oj t hjN hoj hl hd).mono (Ren.cut_mono hle ?_)
      omega
  · intro t ht
    have hne : o.dst ≠ some t := ht i o hr.get (by rw [hls, if_pos rfl])
    rw [tmps_put I hr v' t hne]
    refine (I.told t fun j oj hoj hl => ht j oj hoj ?_).mono (Ren.cut_mono hle (Nat.le_refl _))
    rw [hls, hl]; simp
  · cases hd : o.dst with
    | none => exact I.tsz
    | some d => simp [Act.put, I.tsz]
  · rw [put_defers]; exact I.defs
  · have hlow : (D (i + 1)).s.H.low ≤ (D p).s.H.low := by
      have := hp.lowSame hpq I.qN I.no
      have := (hp.ast hiN).low
      omega
    refine I.cst.trans (n1 := (D i).s.H.next) (low1 := (D (i + 1)).s.H.low) ⟨hle, fun b x h1 h2 => ?_, hC1.size, fun x hx hb => hC1.frame x hx fun b0 hb0 => hb b0 (Ren.cut_some.1 hb0).2, fun b x h1 h2 h3 => ?_⟩ hmono hlow
    · rcases Nat.lt_or_ge b (D i).s.H.next with h6 | h6
      · rw [Ren.join_out (.inl h6), h2] at h1; simp at h1
      · exact h6
    · rcases Nat.lt_or_ge b (D i).s.H.next with h6 | h6
      · rw [Ren.join_out (.inl h6), h2] at h1; simp at h1
      · rcases Nat.lt_or_ge b (D (i + 1)).s.H.next with h7 | h7
        · rw [Ren.join_in h6 h7] at h1
          obtain ⟨b0, k1, k2⟩ := hC1.fresh b x h1 (hcutn b h6) h3
          exact ⟨b0, (Ren.cut_some.1 k1).2, k2⟩
        · rw [Ren.join_out (.inr h7), h2] at h1; simp at h1
  · intro j oj hoj hl e he hb
    rw [hls] at hl ⊢
    by_cases hie : i = e.on
    · rw [if_pos hie]
    · rw [if_neg hie]
      by_cases hij : i = j
      · subst hij
        rw [hr.get] at hoj; simp only [Option.some.injEq] at hoj; subst hoj
        exact hr.ed e he hb
      · rw [if_neg hij] at hl
        exact I.closed j oj hoj hl e he hb
end
end Go.U
end

section
namespace Go.U
set_option autoImplicit false

section
variable {K : KK} {P : Program} {E : Env} {r : Rec} {c : Ctx} {opsA : Array Oper} {k : Nat} {us : List Nat} {n0 : Nat} {D : Nat → SD} {N : Nat} (hp : Places E r c opsA.toList k us n0 D N)
  {m0 m : Ren} {w0 w : World} {ds0 : List Deferred} {a : Act} {listed : Array Bool} {p q : Nat} (I : Inv K P opsA.toList k n0 D N m0 w0 ds0 m a w listed p q)
include hp I
theorem Inv.findChunk {b : Nat} (h1 : (D p).s.H.next ≤ b) (h2 : b < (D N).s.H.next) : ∃ j, p ≤ j ∧ j < N ∧ (D j).s.H.next ≤ b ∧ b < (D (j + 1)).s.H.next := by
  have hpN : p ≤ N := Nat.le_trans I.pq I.qN
  have key : ∀ n, p + n ≤ N → b < (D (p + n)).s.H.next → ∃ j, p ≤ j ∧ j < N ∧ (D j).s.H.next ≤ b ∧ b < (D (j + 1)).s.H.next := by
    intro n
    induction n with
    | zero => intro _ h; simp at h; omega
    | succ n ih =>
      intro hn h
      rcases Nat.lt_or_ge b (D (p + n)).s.H.next with h' | h'
      · exact ih (by omega) h'
      · exact ⟨p + n, by omega, by omega, h', h⟩
  have e : p + (N - p) = N := by omega
  exact key (N - p) (by omega) (by rw [e]; exact h2)
theorem Inv.bnd {b x : Nat} (h : m.ρ b = some x) : x < w.heap.size := by
  rcases Nat.lt_or_ge b (D p).s.H.next with h1 | h1
  · exact I.rel.bnd b x (Ren.cut_some.2 ⟨h1, h⟩)
  · obtain ⟨j, h2, h3, h4, h5⟩ := I.findChunk hp h1 (I.dom b x h)
    cases hl : listed.getD j false with
    | true => exact (I.chunk j h2 h3 hl).bnd b x h4 h5 h
    | false => rw [I.unb j h2 h3 hl b h4 h5] at h; simp at h

variable (hT : TOK E.T P) (hI : EnvI P E) (hS : EnvS K P E) (hK : ∀ f c, K.ck f c → ∃ fn, P.funcs[f]? = some fn) (hrr : RecS K P r)
  (hdom0 : ∀ b x, m0.ρ b = some x → b < n0) {b : Frame} {kk : List Item} {cs : List Frame} (hro : RoR m0 c.round b.roundOf) (hdf : DfRs m0 (D 0).s.df ds0) (hbm : BMR m0 (D 0).s.bm b.kind cs)
include hT hI hS hK hrr hdom0 hro hdf hbm

/-- A call or an effect in its turn. -/
theorem Inv.callAt {i : Nat} {o : Oper} (hr : Ready opsA.toList listed i o) (hiN : i ≤ N) (h1 : p ≤ i) (h2 : i ≤ q) {rest : List Nat} {res : OR} (hop : oper E r c (D i).s o = some res) (hw : Region.wanted o (yielded opsA a.tmps) = true)
    (hk7 : cls k i o.op ≠ 7) : ∃ m1 w1, Rel K P m1 (orEnd res).2.H w1 ∧ CSt (m.cut (D i).s.H.next) w (D i).s.H.next (orEnd res).2.H.low m1 w1 ∧ (isQ res = true → CSt (m.cut (D i).s.H.next) w (D i).s.H.next (D i).s.H.next m1 w1) ∧
      OpEnd P b opsA i rest kk o m1 a a.defers cs w1 (lone (b.atR a (.inRegion opsA (i :: rest) :: kk)) cs w) (orEnd res).1 := by
  have hmono : (D 0).s.H.next ≤ (D i).s.H.next := hp.mono (Nat.zero_le i) hiN
  rw [hp.n0] at hmono
  have hpn : (D p).s.H.next ≤ (D i).s.H.next := hp.mono h1 hiN
  have hm0 : m0.Le (m.cut (D i).s.H.next) := ⟨fun x y hx => Ren.cut_some.2 ⟨by have := hdom0 x y hx; omega, I.cst.le.ρ _ _ hx⟩, fun x y hx => I.cst.le.κ x y hx⟩
  obtain ⟨e1, he1, he2⟩ := I.opds hp hr hiN (n := (D i).s.H.next) (by omega)
  have hop' : operE E r c e1 (D i).s o = some res := by
    rw [operE_congr he1]; exact hop
  have hlen := hp.lenN hiN
  have hoA : opsA[i]? = some o := by have := hr.get; simpa using this
  obtain ⟨m1, w1, ds1, cs1, q1, q2, q3, q4, q5, q6, q7, q8, q9⟩ := operE_s (K := K) hT hI hS hK hp.hA hrr hop' (b := b) (k := kk) (cs := cs) (rest := rest) hoA hw (hro.mono hm0) he2 (I.relAt hp h1 h2)
    (by rw [hlen.2.1, I.defs]; exact hdf.mono hm0) (by rw [hlen.2.2]; exact hbm.mono hm0)
  obtain ⟨rfl, rfl⟩ := q7 (fun cc hc => hk7 (by rw [hc]; rfl)) (fun x y hc => hk7 (by rw [hc]; rfl))
  exact ⟨m1, w1, q1, q2, q8, q9⟩

theorem Inv.opStep {i : Nat} {o : Oper} (hr : Ready opsA.toList listed i o) (hiN : i < N) (rest : List Nat) :
    ∃ v' m' w' p' q', Steps P (lone (b.atR a (.inRegion opsA (i :: rest) :: kk)) cs w) (lone (b.atR (a.put o.dst v') (.inRegion opsA rest :: kk)) cs w') ∧
      Inv K P opsA.toList k n0 D N m0 w0 ds0 m' (a.put o.dst v') w' (listed.setIfInBounds i true) p' q' := by
  have hoA : opsA[i]? = some o := by have := hr.get; simpa using this
  have hmono : (D 0).s.H.next ≤ (D i).s.H.next := hp.mono (Nat.zero_le i) (Nat.le_of_lt hiN)
  rw [hp.n0] at hmono
  have hnxt : (D i).s.H.next ≤ (D (i + 1)).s.H.next := (hp.ast hiN).next
  have hk7 := hp.ok.kind i o hr.get
  have hwt : ∀ wt, wantedF opsA.toList (D i).s.tm o = some wt → Region.wanted o (yielded opsA a.tmps) = wt := fun wt hw =>
    wanted_s (m := m.cut (max (D i).s.H.next (D p).s.H.next)) hw fun j want t hg hs => I.names hp hr (Nat.le_of_lt hiN) (by
      simp only [namesOf, List.mem_append, hg, hs]
      exact .inr (by simp))
  have empty : ∀ {mm : Ren} {ww : World} {HH : AH}, (D i).s.H.next = (D (i + 1)).s.H.next → Chunk K P mm (D i).s.H.next (D (i + 1)).s.H.next HH ww := fun he =>
    ⟨fun b x o h1 h2 => by omega, fun b x h1 h2 => by omega, fun b x cc h1 h2 => by omega, fun b cc x h1 h2 => by omega, fun b x cs T g tip kill h1 h2 => by omega, fun b x cs T g h1 h2 => by omega, fun b x h1 h2 => by omega⟩
  -- a value, and nothing else
  have quiet : ∀ (v v' : Value), ¬ isX opsA.toList k i → (D i).s.H.next = (D (i + 1)).s.H.next → (∀ t, o.dst = some t → (D (i + 1)).s.tm.getD t undef = (putT (D i).s.tm o.dst v).getD t undef) →
      VR (m.cut (max (D (i + 1)).s.H.next (D p).s.H.next)) v v' → Inv K P opsA.toList k n0 D N m0 w0 ds0 m (a.put o.dst v') w (listed.setIfInBounds i true) p q := by
    intro v v' hx hn htm hv
    exact I.finishQ hp hr hiN hx (Ren.Le.refl m) (fun _ _ => rfl) (fun b x h1 h2 => by omega) (fun _ => empty hn) (fun _ _ => rfl) (Nat.le_refl _) (fun _ _ => rfl) ⟨rfl, rfl⟩ htm hv
  rcases stepD_inv (hp.step i hiN o hr.get) with ⟨hw, hs1, _, _⟩ | ⟨hw, v, s', qq, st⟩
  · -- it is left out
    have hst := stepR_op_skip (P := P) (b := b) (a := a) (k := kk) (cs := cs) (w := w) (ops := opsA) (i := i) (rest := rest) (by rw [hoA]; simp [hwt _ hw])
    rw [hoA] at hst
    have hH : (D (i + 1)).s.H = (D i).s.H := by rw [hs1]
    have htm : ∀ t, o.dst = some t → (D (i + 1)).s.tm.getD t undef = (putT (D i).s.tm o.dst undef).getD t undef := fun t _ => by rw [hs1]
    by_cases hx : isX opsA.toList k i
    · have hiq := I.isq hp hr hx (.inr (Nat.le_of_lt hiN))
      obtain ⟨m', q', hI'⟩ := I.finishX hp hr (v := undef) (v' := undef) (by omega) hiq (m1 := m.cut (D q).s.H.next) (w1 := w) (by rw [← hiq, hH]; exact I.relAt hp (by rw [hiq]; exact I.pq) (by omega)) (CSt.refl _ _ _ _)
        (by rw [← hiq]; exact htm) (VR.undef _)
      exact ⟨undef, m', w, _, _, .one hst, hI'⟩
    · exact ⟨undef, m, w, _, _, .one hst, quiet undef undef hx (by rw [hH]) htm (VR.undef _)⟩
  · have hww := hwt _ hw
    have hsame := oper_same (k := k) (i := i) st.op hk7
    simp only [orEnd] at hsame
    have hH : (D (i + 1)).s.H = s'.H := by rw [st.s1]
    have htm : ∀ t, o.dst = some t → (D (i + 1)).s.tm.getD t undef = (putT (D i).s.tm o.dst v).getD t undef := fun t _ => by
      rw [st.s1]
      show (putT s'.tm o.dst v).getD t undef = _
      rw [hsame.1]
    have hop := st.op
    -- what it looks at
    have hops := fun n hn => I.opds hp hr (Nat.le_of_lt hiN) (n := n) hn
    have given : ∀ {v' : Value}, (execOp a.eval o).run P w = .ok (.value v') w → (∀ cc, o.op ≠ .defer cc) →
        Steps P (lone (b.atR a (.inRegion opsA (i :: rest) :: kk)) cs w) (lone (b.atR (a.put o.dst v') (.inRegion opsA rest :: kk)) cs w) := fun h hd => .one (step_value (P := P) hoA hww hd h)
    rcases cls_or (k := k) (i := i) (op := o.op) with h0 | h0 | h0 | h0 | h0 | h0 | h0 | h0
    case inr.inl =>
      -- it looks at no memory
      have hnd := (cls_not (k := k) (i := i) (op := o.op) (by simp [h0])).2.2.2.2
      unfold oper at hop
      rw [operE_opN (k := k) (i := i) (by simp [h0])] at hop
      obtain ⟨c1, c2, c3⟩ := cls0 (T := E.T) (e := opd (D i).s.tm) (H := (D i).s.H) h0
      simp only [opN, c1, c2, c3] at hop
      cases hpp : pureOp E.T (opd (D i).s.tm) o.op with
      | none => rw [hpp] at hop; simp at hop
      | some u =>
        rw [hpp] at hop
        simp only [Option.some.injEq, OR.val.injEq] at hop
        obtain ⟨rfl, hs', _⟩ := hop
        have hH' : (D (i + 1)).s.H = (D i).s.H := by rw [hH, ← hs']
        obtain ⟨e1, he1, he2⟩ := hops _ (Nat.le_refl _)
        obtain ⟨v', g1, g2⟩ := pure_sound hT he2 o u (by rw [pure_congr o.op he1]; exact hpp) w
        have hx : ¬ isX opsA.toList k i := by rw [isX_iff hr.get]; omega
        exact ⟨v', m, w, _, _, given g2 hnd, quiet u v' hx (by rw [hH']) htm (g1.mono (Ren.cut_mono (Ren.Le.refl m) (by rw [hH']; omega)))⟩
    case inr.inr.inr.inr.inr.inr.inr.inr => exact absurd h0 hk7
    case inr.inr.inl | inr.inr.inr.inr.inr.inr.inr.inl =>
      -- a load
      have h16 : cls k i o.op = 1 ∨ cls k i o.op = 6 := by first | exact .inl h0 | exact .inr h0
      have hnd := (cls_not (k := k) (i := i) (op := o.op) (by simp [h0])).2.2.2.2
      unfold oper at hop
      rw [operE_opN (k := k) (i := i) (by simp [h0])] at hop
      obtain ⟨c1, c2, c3⟩ := cls1 (T := E.T) (e := opd (D i).s.tm) (H := (D i).s.H) h16
      simp only [opN, c1, c2, c3] at hop
      cases hpp : readOp E.T (opd (D i).s.tm) (D i).s.H o.op with
      | none => rw [hpp] at hop; simp at hop
      | some u =>
        rw [hpp] at hop
        simp only [Option.some.injEq, OR.val.injEq] at hop
        obtain ⟨rfl, hs', _⟩ := hop
        have hH' : (D (i + 1)).s.H = (D i).s.H := by rw [hH, ← hs']
        have hx : ¬ isX opsA.toList k i := by rw [isX_iff hr.get]; omega
        have fin : ∀ (cc : Nat) (e1 : Operand → Option Value), Rel K P (m.cut (D cc).s.H.next) (D cc).s.H w → OpdR (m.cut (D cc).s.H.next) e1 a.eval → readOp E.T e1 (D cc).s.H o.op = some u →
            (D cc).s.H.next ≤ max (D i).s.H.next (D p).s.H.next → ∃ v' m' w' p' q', Steps P (lone (b.atR a (.inRegion opsA (i :: rest) :: kk)) cs w) (lone (b.atR (a.put o.dst v') (.inRegion opsA rest :: kk)) cs w') ∧
              Inv K P opsA.toList k n0 D N m0 w0 ds0 m' (a.put o.dst v') w' (listed.setIfInBounds i true) p' q' := by
          intro cc e1 z1 z2 z3 z4
          obtain ⟨v', g1, g2⟩ := s_read hT z1 z2 o u z3
          exact ⟨v', m, w, _, _, given g2 hnd, quiet u v' hx (by rw [hH']) htm (g1.mono (Ren.cut_mono (Ren.Le.refl m) (by rw [hH']; omega)))⟩
        have within : p ≤ i → i ≤ q → ∃ v' m' w' p' q', Steps P (lone (b.atR a (.inRegion opsA (i :: rest) :: kk)) cs w) (lone (b.atR (a.put o.dst v') (.inRegion opsA rest :: kk)) cs w') ∧
              Inv K P opsA.toList k n0 D N m0 w0 ds0 m' (a.put o.dst v') w' (listed.setIfInBounds i true) p' q' := by
          intro z1 z2
          have hpn : (D p).s.H.next ≤ (D i).s.H.next := hp.mono z1 (Nat.le_of_lt hiN)
          obtain ⟨e1, he1, he2⟩ := hops (D i).s.H.next (by omega)
          exact fin i e1 (I.relAt hp z1 z2) he2 (by rw [read_congr _ o.op he1]; exact hpp) (by omega)
        by_cases hu : cls k i o.op = 1 ∧ us.getD i 0 ≠ 0
        · obtain ⟨h1, hu⟩ := hu
          rcases Nat.lt_or_ge i p with hip | hip
          · -- it is late
            have hpN : p ≤ N := Nat.le_trans I.pq I.qN
            obtain ⟨bb, cl, f1, f2, f3, f4, f5⟩ := hp.floatRange hiN hr.get h1 hw (Nat.le_of_lt hip) hpN (fun j z1 z2 z3 => by
              obtain ⟨oj, hoj, hcj⟩ := z3
              have hjl : j < opsA.toList.length := (List.getElem?_eq_some_iff.1 hoj).1
              have hrun := (I.xs j hjl ⟨oj, hoj, hcj⟩).2 z2
              have hij : i < j := by
                rcases Nat.lt_or_ge i j with h | h
                · exact h
                · have : i = j := by omega
                  subst this; rw [hr.un] at hrun; simp at hrun
              rcases I.late hp hr hij hoj with h | ⟨h, _⟩
              · rw [hrun] at h; simp at h
              · rw [h1] at h
                have h3 : cls k j oj.op = 3 := by
                  rcases hcj with hcj | hcj
                  · exact hcj
                  · rw [hcj] at h; simp [pairOK] at h
                rw [h3] at h
                exact ⟨fun oj' hoj' => by rw [hoj] at hoj'; simp only [Option.some.injEq] at hoj'; subst hoj'; exact h3, by simpa [pairOK] using h⟩) hu
            obtain ⟨e1, he1, he2⟩ := hops (D p).s.H.next (by have := hp.mono (i := i) (j := p) (by omega) hpN; omega)
            refine fin p e1 I.rel he2 ?_ (by omega)
            rw [read_congr _ o.op he1]
            cases hoo : o.op <;> rw [hoo] at h1 <;> simp [cls] at h1
            case load t x =>
              rw [hoo] at f1 hpp
              rw [load_same f1 f2 f4 f5]; exact hpp
            case call cc =>
              obtain ⟨callee, args, ats⟩ := cc
              cases callee with
              | value f => simp at h1; cases hb : k.testBit i <;> simp [hb] at h1
              | invoke rr n => simp at h1; cases hb : k.testBit i <;> simp [hb] at h1
              | builtin bi => cases bi <;> simp at h1
          · rcases Nat.lt_or_ge q i with hqi | hqi
            · -- it is early
              have hqN : q < N := by omega
              obtain ⟨bb, cl, f1, f2, f3, f4, f5⟩ := hp.floatRange hiN hr.get h1 hw (Nat.le_of_lt hqi) (Nat.le_of_lt hiN) (fun j z1 z2 z3 => by
                obtain ⟨oj, hoj, hcj⟩ := z3
                have hjl : j < opsA.toList.length := (List.getElem?_eq_some_iff.1 hoj).1
                have hnr : listed.getD j false = false := by
                  cases hl : listed.getD j false with
                  | false => rfl
                  | true =>
                    have := (I.xs j hjl ⟨oj, hoj, hcj⟩).1 hl
                    have := I.pq
                    omega
                rcases I.early hp hr z2 hoj with h | ⟨h, _⟩
                · rw [hnr] at h; simp at h
                · rw [h1] at h
                  have h3 : cls k j oj.op = 3 := by
                    rcases hcj with hcj | hcj
                    · exact hcj
                    · rw [hcj] at h; simp [pairOK] at h
                  rw [h3] at h
                  exact ⟨fun oj' hoj' => by rw [hoj] at hoj'; simp only [Option.some.injEq] at hoj'; subst hoj'; exact h3, by simpa [pairOK] using h⟩) hu
              have hpn : (D p).s.H.next ≤ (D i).s.H.next := hp.mono hip (Nat.le_of_lt hiN)
              have hqn : (D q).s.H.next ≤ (D i).s.H.next := hp.mono (Nat.le_of_lt hqi) (Nat.le_of_lt hiN)
              have hn0q : n0 ≤ (D q).s.H.next := by have := hp.mono (Nat.zero_le q) (Nat.le_of_lt hqN); rw [hp.n0] at this; exact this
              obtain ⟨e1, he1, he2⟩ := hops (D i).s.H.next (by omega)
              cases hoo : o.op <;> rw [hoo] at h1 <;> simp [cls] at h1
              case load t x =>
                rw [hoo] at f1 hpp
                have hx1 : e1 x = opd (D i).s.tm x := he1 x (by rw [hoo]; simp [Op.operands])
                have hread : readOp E.T (opd (D i).s.tm) (D q).s.H (.load t x) = some u := by
                  rw [load_same (H := (D i).s.H) f1 f2 f4.symm (fun hcl g hg => (f5 hcl g hg).symm)]; exact hpp
                -- its address lay before the region
                classical
                refine fin q (fun y => if y = x then e1 x else none) (I.relAt hp I.pq (Nat.le_refl _)) ?_ ?_ (by omega)
                · intro y z hz
                  by_cases hyx : y = x
                  · subst hyx
                    simp only [if_true] at hz
                    have hr2 := he2 y z hz
                    rw [hx1] at hz
                    simp only [src, hz] at f1
                    split at f1 <;> try (simp at f1; done)
                    rename_i b2 o2 sp hzz
                    simp only [Option.some.injEq] at f1 hzz; subst f1; subst hzz
                    generalize a.eval y = zz at hr2
                    cases hr2 with
                    | ptr _ _ b' hb =>
                      exact .ptr _ _ _ (Ren.cut_some.2 ⟨by omega, (Ren.cut_some.1 hb).2⟩)
                  · simp [hyx] at hz
                · rw [hoo]
                  rw [← hread]
                  apply read_congr
                  intro y hy
                  simp [Op.operands] at hy
                  subst hy
                  simp [hx1]
              case call cc =>
                obtain ⟨callee, args, ats⟩ := cc
                cases callee with
                | value f => simp at h1; cases hb : k.testBit i <;> simp [hb] at h1
                | invoke rr n => simp at h1; cases hb : k.testBit i <;> simp [hb] at h1
                | builtin bi => cases bi <;> simp at h1
            · exact within hip hqi
        · refine within (I.notLate hp hr fun j oj hoj hcj => ?_) (I.notEarly hp hr hiN fun j oj hoj hcj => ?_)
          · rcases h16 with h1 | h1
            · have hu0 : us.getD i 0 = 0 := by
                rcases Nat.eq_zero_or_pos (us.getD i 0) with h | h
                · exact h
                · exact absurd ⟨h1, by omega⟩ hu
              rcases hcj with hcj | hcj <;> rw [h1, hcj] <;> simp [pairOK]
              have : us[i]?.getD 0 = 0 := by rw [← List.getD_eq_getElem?_getD]; exact hu0
              simp [this]
            · rcases hcj with hcj | hcj <;> rw [h1, hcj] <;> simp [pairOK]
          · rcases h16 with h1 | h1
            · have hu0 : us.getD i 0 = 0 := by
                rcases Nat.eq_zero_or_pos (us.getD i 0) with h | h
                · exact h
                · exact absurd ⟨h1, by omega⟩ hu
              rcases hcj with hcj | hcj <;> rw [h1, hcj] <;> simp [pairOK]
              have : us[i]?.getD 0 = 0 := by rw [← List.getD_eq_getElem?_getD]; exact hu0
              simp [this]
            · rcases hcj with hcj | hcj <;> rw [h1, hcj] <;> simp [pairOK]
    case inr.inr.inr.inl =>
      -- a new block
      have hnd := (cls_not (k := k) (i := i) (op := o.op) (by simp [h0])).2.2.2.2
      unfold oper at hop
      rw [operE_opN (k := k) (i := i) (by simp [h0])] at hop
      obtain ⟨c1, c2, c3⟩ := cls2 (T := E.T) (e := opd (D i).s.tm) (H := (D i).s.H) h0
      simp only [opN, c1, c2, c3] at hop
      cases hpp : allocOp E.T (opd (D i).s.tm) o.op with
      | none => rw [hpp] at hop; simp at hop
      | some pr =>
        obtain ⟨ob, nm⟩ := pr
        rw [hpp] at hop
        simp only [Option.some.injEq, OR.val.injEq] at hop
        obtain ⟨rfl, hs', _⟩ := hop
        have hH' : (D (i + 1)).s.H = (D i).s.H.push ob := by rw [hH, ← hs']
        have hn' : (D (i + 1)).s.H.next = (D i).s.H.next + 1 := by rw [hH']; rfl
        have hip : p ≤ i := I.notLate hp hr fun j oj hoj hcj => by rcases hcj with hcj | hcj <;> rw [h0, hcj] <;> simp [pairOK]
        have hx : ¬ isX opsA.toList k i := by rw [isX_iff hr.get]; omega
        have hpn : (D p).s.H.next ≤ (D i).s.H.next := hp.mono hip (Nat.le_of_lt hiN)
        obtain ⟨e1, he1, he2⟩ := hops (D i).s.H.next (by omega)
        have hf : (m.cut (D i).s.H.next).ρ (D i).s.H.next = none := by
          cases hc : (m.cut (D i).s.H.next).ρ (D i).s.H.next with
          | none => rfl
          | some y => have := (Ren.cut_some.1 hc).1; omega
        obtain ⟨o', v', g1, g2, g3, g4⟩ := s_allocN (K := K) (w := w) hT he2 o ob nm (by rw [alloc_congr o.op he1]; exact hpp) (D i).s.H.next hf (D (i + 1)).s.H.gs
        have hle := (m.cut (D i).s.H.next).le_bind (D i).s.H.next w.heap.size 0 hf
        have hun := I.unb i hip hiN hr.un
        have hle1 : ((m.cut (D i).s.H.next).bind (D i).s.H.next w.heap.size 0).Le ((m.join ((m.cut (D i).s.H.next).bind (D i).s.H.next w.heap.size 0) (D i).s.H.next (D (i + 1)).s.H.next).cut (D (i + 1)).s.H.next) := by
          refine Ren.le_join hle (fun bb x h1 h2 => ?_) (fun bb x h1 => ?_)
          · by_cases hb : bb = (D i).s.H.next
            · omega
            · rw [Ren.bind_old _ _ _ _ hb, h2] at h1; simp at h1
          · by_cases hb : bb = (D i).s.H.next
            · omega
            · rw [Ren.bind_old _ _ _ _ hb] at h1
              have := (Ren.cut_some.1 h1).1
              omega
        have hin : ∀ bb x, (D i).s.H.next ≤ bb → bb < (D (i + 1)).s.H.next → (m.join ((m.cut (D i).s.H.next).bind (D i).s.H.next w.heap.size 0) (D i).s.H.next (D (i + 1)).s.H.next).ρ bb = some x → bb = (D i).s.H.next ∧ x = w.heap.size := by
          intro bb x h1 h2 h3
          rw [Ren.join_in h1 h2] at h3
          have hb : bb = (D i).s.H.next := by omega
          subst hb
          rw [Ren.bind_same] at h3
          exact ⟨rfl, by simpa using h3.symm⟩
        refine ⟨v', _, w.alloc o', p, q, .one (step_value (P := P) hoA hww hnd g4), I.finishQ hp hr hiN hx (m' := m.join ((m.cut (D i).s.H.next).bind (D i).s.H.next w.heap.size 0) (D i).s.H.next (D (i + 1)).s.H.next) (w' := w.alloc o') (v := nm (D i).s.H.next) (v' := v')
          (Ren.join_le hun) (fun bb hb => Ren.join_out hb) (fun bb x h1 h2 h3 => by rw [(hin bb x h1 h2 h3).2]; exact Nat.le_refl _) (fun _ => ?_) (fun h => by omega) (by rw [World.size_alloc]; omega)
          (fun x hx => by simp only [World.alloc]; rw [Array.getElem?_push_lt hx, Array.getElem?_eq_getElem hx]) ⟨rfl, rfl⟩ htm (g3.mono (hle1.trans (Ren.cut_mono (Ren.Le.refl _) (by omega))))⟩
        refine ⟨?_, ?_, ?_, ?_, ?_, ?_, fun bb x h1 h2 h3 => by rw [(hin bb x h1 h2 h3).2]; exact .inl I.rel.bsz⟩
        · intro bb x ob' h1 h2 h3 h4
          obtain ⟨rfl, rfl⟩ := hin bb x h1 h2 h3
          rw [hH', get_push_same] at h4
          simp only [Option.some.injEq] at h4; subst h4
          exact ⟨o', by show (w.heap.push o')[w.heap.size]? = some o'; simp, g2.mono hle1 (Ren.bind_same _ _ _ _) fun cs' T' g' tip kill _ hg hkk => ⟨tip, kill, hg, hkk⟩⟩
        · intro bb x h1 h2 h3
          obtain ⟨rfl, rfl⟩ := hin bb x h1 h2 h3
          rw [World.size_alloc]; omega
        · intro bb x cc h1 h2 h3 h4 h5
          obtain ⟨rfl, rfl⟩ := hin bb x h1 h2 h3
          rw [Ren.join_out (.inl h4)] at h5
          have := I.bnd hp h5
          omega
        · intro bb cc x h1 h2 h3 h4 h5 h6
          obtain ⟨rfl, rfl⟩ := hin bb x h1 h2 h5
          exact .inl (hin cc _ h3 h4 h6).1.symm
        · intro bb x cs' T' g' tip kill h1 h2 h3 h4
          obtain ⟨rfl, rfl⟩ := hin bb x h1 h2 h3
          rw [hH', get_push_same] at h4
          simp only [Option.some.injEq] at h4
          exact absurd h4 (g1 _ _ _)
        · intro bb x cs' T' g' h1 h2 h3 h4
          obtain ⟨rfl, rfl⟩ := hin bb x h1 h2 h3
          rw [hH', get_push_same] at h4
          simp only [Option.some.injEq] at h4
          exact absurd h4 (g1 _ _ _)
    case inr.inr.inr.inr.inr.inl =>
      -- a call that changes nothing that lay
      have hq : qq = true := by
        cases qq with
        | true => rfl
        | false => have := st.bit rfl; rw [cls4_bit h0] at this; simp at this
      subst hq
      have hip : p ≤ i := I.notLate hp hr fun j oj hoj hcj => by rcases hcj with hcj | hcj <;> rw [h0, hcj] <;> simp [pairOK]
      have hiq : i ≤ q := I.notEarly hp hr hiN fun j oj hoj hcj => by rcases hcj with hcj | hcj <;> rw [h0, hcj] <;> simp [pairOK]
      have hx : ¬ isX opsA.toList k i := by rw [isX_iff hr.get]; omega
      have hpn : (D p).s.H.next ≤ (D i).s.H.next := hp.mono hip (Nat.le_of_lt hiN)
      obtain ⟨m1, w1, r1, c1, c2, v', hv, hst⟩ := I.callAt hp hT hI hS hK hrr hdom0 hro hdf hbm hr (Nat.le_of_lt hiN) hip hiq (rest := rest) (kk := kk) st.op hww hk7
      simp only [orEnd] at r1 c1
      have c2 := c2 rfl
      have hun := I.unb i hip hiN hr.un
      rw [← hH] at r1
      have hle1 := Ren.le_join c2.le c2.new r1.dom
      have hnew : ∀ bb x, (D i).s.H.next ≤ bb → bb < (D (i + 1)).s.H.next → (m.join m1 (D i).s.H.next (D (i + 1)).s.H.next).ρ bb = some x → w.heap.size ≤ x ∧ m1.ρ bb = some x := by
        intro bb x h1 h2 h3
        rw [Ren.join_in h1 h2] at h3
        refine ⟨?_, h3⟩
        rcases Nat.lt_or_ge x w.heap.size with h | h
        · have hcn : (m.cut (D i).s.H.next).ρ bb = none := by
            cases hc : (m.cut (D i).s.H.next).ρ bb with
            | none => rfl
            | some y => have := (Ren.cut_some.1 hc).1; omega
          obtain ⟨b0, k1, k2⟩ := c2.fresh bb x h3 hcn h
          have := (Ren.cut_some.1 k1).1
          omega
        · exact h
      refine ⟨v', _, w1, p, q, hst, I.finishQ hp hr hiN hx (m' := m.join m1 (D i).s.H.next (D (i + 1)).s.H.next) (w' := w1) (v := v) (v' := v')
        (Ren.join_le hun) (fun bb hb => Ren.join_out hb) (fun bb x h1 h2 h3 => (hnew bb x h1 h2 h3).1) (fun _ => ?_) (fun h => by omega) c2.size
        (fun x hx => c2.frame x hx fun b0 hb0 => (Ren.cut_some.1 hb0).1) ⟨r1.ob.1.trans I.rel.ob.1.symm, r1.ob.2.trans I.rel.ob.2.symm⟩ htm (hv.mono (hle1.trans (Ren.cut_mono (Ren.Le.refl _) (by omega))))⟩
      refine ⟨?_, ?_, ?_, ?_, ?_, ?_, fun bb x h1 h2 h3 => r1.base bb x (hnew bb x h1 h2 h3).2⟩
      · intro bb x ob' h1 h2 h3 h4
        obtain ⟨_, h5⟩ := hnew bb x h1 h2 h3
        obtain ⟨o', k1, k2⟩ := r1.obj bb x ob' h5 h4
        exact ⟨o', k1, k2.mono hle1 h5 fun cs' T' g' tip kill _ hg hkk => ⟨tip, kill, hg, hkk⟩⟩
      · intro bb x h1 h2 h3
        exact r1.bnd bb x (hnew bb x h1 h2 h3).2
      · intro bb x cc h1 h2 h3 h4 h5
        rw [Ren.join_out (.inl h4)] at h5
        have := I.bnd hp h5
        have := (hnew bb x h1 h2 h3).1
        omega
      · intro bb cc x h1 h2 h3 h4 h5 h6
        exact r1.inj bb cc x (hnew bb x h1 h2 h5).2 (hnew cc x h3 h4 h6).2
      · intro bb x cs' T' g' tip kill h1 h2 h3
        exact r1.grp bb x cs' T' g' tip kill (hnew bb x h1 h2 h3).2
      · intro bb x cs' T' g' h1 h2 h3
        exact r1.gbd bb x cs' T' g' (hnew bb x h1 h2 h3).2
    case inr.inr.inr.inr.inl | inr.inr.inr.inr.inr.inr.inl =>
      -- one that is never out of turn
      have hx : isX opsA.toList k i := by rw [isX_iff hr.get]; first | exact .inl h0 | exact .inr h0
      have hiq := I.isq hp hr hx (.inr (Nat.le_of_lt hiN))
      obtain ⟨m1, w1, r1, c1, _, v', hv, hst⟩ := I.callAt hp hT hI hS hK hrr hdom0 hro hdf hbm hr (Nat.le_of_lt hiN) (by rw [hiq]; exact I.pq) (by omega) (rest := rest) (kk := kk) st.op hww hk7
      simp only [orEnd] at r1 c1
      rw [← hH] at r1 c1
      obtain ⟨m', q', hI'⟩ := I.finishX hp hr (v := v) (v' := v') (by omega) hiq (m1 := m1) (w1 := w1) (by rw [← hiq]; exact r1) (by rw [← hiq]; exact c1) (by rw [← hiq]; exact htm) hv
      exact ⟨v', m', w1, _, _, hst, hI'⟩
end
end Go.U
end

section
namespace Go.U
set_option autoImplicit false

theorem VRs.ofPoint {m : Ren} : ∀ (l l' : List Value), l'.length = l.length → (∀ t, VR m (l.getD t undef) (l'.getD t undef)) → VRs m l l'
  | [], [], _, _ => .nil
  | [], _ :: _, h, _ => by simp at h
  | _ :: _, [], h, _ => by simp at h
  | v :: l, v' :: l', h, hv => .cons _ _ _ _ (by simpa using hv 0) (VRs.ofPoint l l' (by simpa using h) fun t => by simpa using hv (t + 1))
theorem topAll_get (t : Tmp) : ∀ (l : List Oper) (tm : List Value), (∃ r, (topAll l tm).getD t undef = .chan r) ∨ ((topAll l tm).getD t undef = tm.getD t undef ∧ ∀ o ∈ l, o.dst = some t → tm.length ≤ t)
  | [], tm => .inr ⟨rfl, fun o h => by simp at h⟩
  | o :: l, tm => by
    have hlen : (putT tm o.dst TOP).length = tm.length := by cases o.dst <;> simp [putT]
    rcases topAll_get t l (putT tm o.dst TOP) with h | ⟨h1, h2⟩
    · exact .inl h
    · simp only [topAll]
      by_cases hd : o.dst = some t
      · by_cases ht : t < tm.length
        · left
          refine ⟨none, ?_⟩
          rw [h1, hd]
          simp [putT, List.getD_eq_getElem?_getD, ht, TOP]
        · right
          refine ⟨?_, fun o' ho' hd' => ?_⟩
          · rw [h1, hd]
            simp [putT, List.getD_eq_getElem?_getD, ht]
          · exact Nat.le_of_not_lt ht
      · right
        refine ⟨?_, fun o' ho' hd' => ?_⟩
        · rw [h1]
          cases hdd : o.dst with
          | none => rfl
          | some d =>
            have : d ≠ t := fun e => hd (by rw [hdd, e])
            simp [putT, List.getD_eq_getElem?_getD, List.getElem?_set_ne this]
        · rcases List.mem_cons.1 ho' with rfl | ho'
          · exact absurd hd' hd
          · have := h2 o' ho' hd'; omega

theorem pan_cls {E : Env} {r : Rec} {c : Ctx} {s s2 : St} {o : Oper} {v : Value} {k i : Nat} (h : oper E r c s o = some (.pan v s2)) (hb : k.testBit i = true) (hk : cls k i o.op ≠ 7) : cls k i o.op = 3 ∨ cls k i o.op = 5 := by
  rcases cls_or (k := k) (i := i) (op := o.op) with h0 | h0 | h0 | h0 | h0 | h0 | h0 | h0
  · unfold oper at h; rw [operE_opN (k := k) (i := i) (by simp [h0])] at h; split at h <;> simp at h
  · unfold oper at h; rw [operE_opN (k := k) (i := i) (by simp [h0])] at h; split at h <;> simp at h
  · unfold oper at h; rw [operE_opN (k := k) (i := i) (by simp [h0])] at h; split at h <;> simp at h
  · exact .inl h0
  · rw [cls4_bit h0] at hb; simp at hb
  · exact .inr h0
  · unfold oper at h; rw [operE_opN (k := k) (i := i) (by simp [h0])] at h; split at h <;> simp at h
  · exact absurd h0 hk

section
variable {K : KK} {P : Program} {E : Env} {r : Rec} (hM : P.follows .mixedOrders = true) (hT : TOK E.T P) (hI : EnvI P E) (hS : EnvS K P E) (hK : ∀ f c, K.ck f c → ∃ fn, P.funcs[f]? = some fn)
  (hE : EnvA E) (hA : RecA r) (hrr : RecS K P r)
include hM hT hI hS hK hE hA hrr

theorem draw_s : DrawS K P E r := by
  intro c id ops k us s y s1 h hok m0 a0 w0 b kk cs hfn hro hR htm hdf hbm
  obtain ⟨D, N, hD0, hN, hst, hend⟩ := trace ops.toList 0 ⟨s, [], []⟩ y s1 h
  have hs0 : (D 0).s = s := by rw [hD0]
  have hp : Places E r c ops.toList k us s.H.next D N := ⟨hE, hA, regionOK_spec hok, hN, fun j hj o ho => by have := hst j hj o ho; simpa using this, by rw [hs0]⟩
  have hdom0 : ∀ b x, m0.ρ b = some x → b < s.H.next := hR.dom
  have hcut0 : m0.cut s.H.next = m0 := Ren.cut_eq hdom0
  -- the order is drawn
  have hstep0 := stepR_region_draw (P := P) (b := b) (a := a0) (k := kk) (cs := cs) (w := w0) (ops := ops) (id := id)
  generalize ht : w0.tape w0.drawn (.order b.fn id) = t at hstep0
  have hsch : Region.schedule (P.follows .mixedOrders) ops t = Region.linearise.go .any ops ops.size t (Array.replicate ops.size false) [] := by
    simp [Region.schedule, hM, Region.linearise]
  rw [hsch] at hstep0
  have hb : ∀ (j : Nat) (o : Oper), ops[j]? = some o → ∀ e ∈ o.after.toList, Region.binds .any e = true → e.on < j := fun j o ho => hp.ok.edge j o (by simpa using ho)
  -- how it begins
  have hw0' : ({ w0 with drawn := w0.drawn + 1 } : World).heap = w0.heap := rfl
  obtain ⟨q0, hq1, hq2, hq3, hq4⟩ := nextX ops.toList k N _ 0 rfl (Nat.zero_le _)
  have hrep : ∀ i, (Array.replicate ops.size false).getD i false = false := fun i => by
    rw [Array.getD_eq_getD_getElem?, Array.getElem?_replicate]
    split <;> rfl
  have I0 : Inv K P ops.toList k s.H.next D N m0 w0 a0.defers m0 a0 { w0 with drawn := w0.drawn + 1 } (Array.replicate ops.size false) 0 q0 := by
    refine ⟨Nat.zero_le _, hq2, hq3, .inl rfl, hq4, ?_, ?_, ?_, ?_, ?_, ?_, ?_, ?_, rfl, ?_, ?_, by simp⟩
    · intro i _ _; rw [hrep]; simp
    · rw [hp.n0, hcut0, hs0]; exact hR.world (Nat.le_refl _) (fun _ _ => rfl) ⟨rfl, rfl⟩
    · intro i _ _ hl; rw [hrep] at hl; simp at hl
    · intro i _ hiN _ bb h1 _
      cases hm : m0.ρ bb with
      | none => rfl
      | some x =>
        have := hdom0 bb x hm
        have h2 := hp.mono (Nat.zero_le i) (Nat.le_of_lt hiN)
        rw [hp.n0] at h2
        omega
    · intro bb x hbx
      have := hdom0 bb x hbx
      have h2 := hp.mono (Nat.zero_le N) (Nat.le_refl _)
      rw [hp.n0] at h2
      omega
    · intro i o t _ _ hl; rw [hrep] at hl; simp at hl
    · intro t _
      rw [hcut0, hs0]
      have := htm.getD t (VR.undef m0)
      simpa [Array.getD_eq_getD_getElem?, List.getD_eq_getElem?_getD] using this
    · have := htm.length; rw [hs0]; simpa using this
    · exact ⟨Ren.Le.refl _, fun b x h1 h2 => by rw [h2] at h1; simp at h1, Nat.le_refl _, fun _ _ _ => rfl, fun b x h1 h2 => by rw [h2] at h1; simp at h1⟩
    · intro j o _ hl; rw [hrep] at hl; simp at hl
  -- one step
  have one : ∀ (fuel t : Nat) (listed : Array Bool) (m : Ren) (a : Act) (w : World) (p q : Nat), left ops.size listed ≤ fuel → Inv K P ops.toList k s.H.next D N m0 w0 a0.defers m a w listed p q →
      (∀ (i fuel' t' : Nat) (m' : Ren) (a' : Act) (w' : World) (p' q' : Nat), left ops.size (listed.setIfInBounds i true) < left ops.size listed → left ops.size (listed.setIfInBounds i true) ≤ fuel' →
        Inv K P ops.toList k s.H.next D N m0 w0 a0.defers m' a' w' (listed.setIfInBounds i true) p' q' →
        ∃ m1 a1 w1, CSt m0 w0 s.H.next s1.H.low m1 w1 ∧ Rel K P m1 s1.H w1 ∧ DfRs m1 s1.df a1.defers ∧ BMR m1 s1.bm b.kind cs ∧
          Ends P b kk y m1 s1 a1 cs w1 (lone (b.atR a' (.inRegion ops (Region.linearise.go .any ops fuel' t' (listed.setIfInBounds i true) []) :: kk)) cs w')) →
      ∃ m1 a1 w1, CSt m0 w0 s.H.next s1.H.low m1 w1 ∧ Rel K P m1 s1.H w1 ∧ DfRs m1 s1.df a1.defers ∧ BMR m1 s1.bm b.kind cs ∧
        Ends P b kk y m1 s1 a1 cs w1 (lone (b.atR a (.inRegion ops (Region.linearise.go .any ops fuel t listed []) :: kk)) cs w) := by
    intro fuel t listed m a w p q hf I more
    have hlen := hp.lenN (Nat.le_refl N)
    rw [hs0] at hlen
    have hmN : m.cut (D N).s.H.next = m := Ren.cut_eq I.dom
    have hm0le : m0.Le m := I.cst.le
    have hsz : listed.size = ops.size := by have := I.lsz; simpa using this
    rcases go_cases ops fuel t listed hf hb with ⟨hL, hall⟩ | ⟨i, fuel', t', hL, hi, hun, hed, hf'⟩
    · -- all have been run
      rw [hL]
      have hall' : ∀ i, i < ops.toList.length → listed.getD i false = true := fun i hi => by
        have hi' : i < ops.size := by simpa using hi
        have := hall i hi'
        rw [Array.getD_eq_getD_getElem?] at this ⊢
        cases hx : listed[i]? with
        | some v => rw [hx] at this; simpa using this
        | none => rw [Array.getElem?_eq_none_iff] at hx; omega
      rcases hend with ⟨hNn, rfl, rfl⟩ | ⟨hNn, o, v, s2, ho, hbit, hw, hop, _, _⟩
      · have hqN : q = N := by
          rcases Nat.lt_or_ge q N with h' | h'
          · exfalso
            have hx := I.qx h'
            have := (I.xs q (by omega) hx).1 (hall' q (by omega))
            have := I.pq
            omega
          · have := I.qN; omega
        have hRN := I.relAt hp I.pq (Nat.le_refl q)
        rw [hqN, hmN] at hRN
        have hlow : (D N).s.H.low = (D p).s.H.low := by
          have := hp.lowSame (by rw [← hqN]; exact I.pq) (Nat.le_refl N) (by rw [← hqN]; exact I.no)
          exact this
        refine ⟨m, a, w, by rw [hlow]; exact I.cst, hRN, by rw [hlen.2.1, I.defs]; exact hdf.mono hm0le, by rw [hlen.2.2]; exact hbm.mono hm0le, ?_, .one stepR_region_end⟩
        refine VRs.ofPoint _ _ (by rw [hlen.1]; have := I.tsz; rw [hs0] at this; simpa using this) fun t => ?_
        have key : VR m ((D N).s.tm.getD t undef) (a.tmps.getD t undef) := by
          by_cases hd : ∃ i o, i < N ∧ ops.toList[i]? = some o ∧ o.dst = some t
          · obtain ⟨i, o, hiN, ho, hd⟩ := hd
            have h1 := I.tdst i o t hiN ho (hall' i (by omega)) hd
            have h2 : (D N).s.tm.getD t undef = (D (i + 1)).s.tm.getD t undef := hp.tmSame hiN (Nat.le_refl _) fun x hx1 hx2 ox hox hdx => hp.ok.dst i x o ox (by omega) ho hox t hd hdx
            rw [h2]; exact h1.mono (Ren.cut_le _ _)
          · have h2 : (D N).s.tm.getD t undef = (D 0).s.tm.getD t undef := hp.tmSame (Nat.zero_le _) (Nat.le_refl _) fun x _ hx2 ox hox hdx => hd ⟨x, ox, hx2, hox, hdx⟩
            rw [h2]
            exact (I.told t fun i o ho _ hdx => hd ⟨i, o, by rw [hNn]; exact (List.getElem?_eq_some_iff.1 ho).1, ho, hdx⟩).mono (Ren.cut_le _ _)
        simpa [Array.getD_eq_getD_getElem?, List.getD_eq_getElem?_getD] using key
      · -- the last one has not been run
        exfalso
        have hxN : isX ops.toList k N := ⟨o, ho, pan_cls hop (by simpa using hbit) (hp.ok.kind N o ho)⟩
        have := (I.xs N (by omega) hxN).1 (hall' N (by omega))
        have := I.pq
        have := I.qN
        omega
    · rw [hL]
      obtain ⟨o, ho⟩ : ∃ o, ops[i]? = some o := ⟨ops[i], by simp [hi]⟩
      have hun' : listed.getD i false = false := by
        rw [Array.getD_eq_getD_getElem?] at hun ⊢
        cases hx : listed[i]? with
        | some v => rw [hx] at hun; simpa using hun
        | none => rfl
      have hr : Ready ops.toList listed i o := ⟨by simpa using hi, by simpa using ho, hun', hed o ho⟩
      have hlt := left_lt (n := ops.size) (listed := listed) hi hun
      rcases Nat.lt_or_ge i N with hiN | hiN
      · obtain ⟨v', m', w', p', q', hs, I'⟩ := I.opStep hp hT hI hS hK hrr hdom0 (b := b) (kk := kk) (cs := cs) hro (by rw [hs0]; exact hdf) (by rw [hs0]; exact hbm) hr hiN (Region.linearise.go .any ops fuel' t' (listed.setIfInBounds i true) [])
        obtain ⟨m1, a1, w1, z1, z2, z3, z4, z5⟩ := more i fuel' t' m' _ w' p' q' hlt hf' I'
        exact ⟨m1, a1, w1, z1, z2, z3, z4, z5.of_steps hs⟩
      · rcases hend with ⟨hNn, _, _⟩ | ⟨hNn, oN, v, s2, hoN, hbit, hw, hop, rfl, rfl⟩
        · have := hr.lt; omega
        · have hiN' : i = N := by have := hr.lt; omega
          subst hiN'
          have hoo : oN = o := by have := hr.get; rw [hoN] at this; simpa using this
          subst hoo
          have hkN := hp.ok.kind i oN hoN
          have hxN : isX ops.toList k i := ⟨oN, hoN, pan_cls hop (by simpa using hbit) hkN⟩
          have hiq := I.isq hp hr hxN (.inr (Nat.le_refl _))
          have hww : Region.wanted oN (yielded ops a.tmps) = true :=
            wanted_s (m := m.cut (max (D i).s.H.next (D p).s.H.next)) hw fun j want t hg hs => I.names hp hr (Nat.le_refl _) (by
              simp only [namesOf, List.mem_append, hg, hs]
              exact .inr (by simp))
          obtain ⟨m1, w1, r1, c1, _, v', hv, hs⟩ := I.callAt hp hT hI hS hK hrr hdom0 (b := b) (kk := kk) (cs := cs) hro (by rw [hs0]; exact hdf) (by rw [hs0]; exact hbm) hr (Nat.le_refl _) (by rw [hiq]; exact I.pq) (by omega)
            (rest := Region.linearise.go .any ops fuel' t' (listed.setIfInBounds i true) []) hop hww hkN
          simp only [orEnd] at r1 c1
          rw [hmN] at c1
          have hsame := oper_same (k := k) (i := i) hop hkN
          simp only [orEnd] at hsame
          have hlow : s2.H.low ≤ (D p).s.H.low := by
            have h1 := hp.lowSame (p := p) (q := i) (by rw [hiq]; exact I.pq) (Nat.le_refl _) (by rw [hiq]; exact I.no)
            have h2 : ASt (D i).s.H s2.H := oper_ast hE hA hop
            have := h2.low
            omega
          have hn0 : s.H.next ≤ (D i).s.H.next := by have := hp.mono (Nat.zero_le i) (Nat.le_refl _); rw [hp.n0] at this; exact this
          have hcst := I.cst.trans c1 hn0 hlow
          refine ⟨m1, a, w1, hcst, r1, ?_, ?_, ?_, _, v', hv, hs⟩
          · show DfRs m1 s2.df a.defers
            rw [hsame.2.1, hlen.2.1, I.defs]; exact hdf.mono hcst.le
          · show BMR m1 s2.bm b.kind cs
            rw [hsame.2.2, hlen.2.2]; exact hbm.mono hcst.le
          · intro t
            show (∃ r, (topAll ops.toList s2.tm).getD t undef = .chan r) ∨ VR m1 ((topAll ops.toList s2.tm).getD t undef) (a.tmps.getD t undef)
            rcases topAll_get t ops.toList s2.tm with h1 | ⟨h1, h2⟩
            · exact .inl h1
            · right
              rw [h1, hsame.1]
              have htl : s2.tm.length = a.tmps.size := by rw [hsame.1, hlen.1, I.tsz, hs0]
              by_cases hlt2 : t < s2.tm.length
              · have hno : ∀ (i' : Nat) (o' : Oper), ops.toList[i']? = some o' → o'.dst ≠ some t := fun i' o' ho' hd => by have := h2 o' (List.mem_of_getElem? ho') hd; omega
                have h3 : (D i).s.tm.getD t undef = (D 0).s.tm.getD t undef := hp.tmSame (Nat.zero_le _) (Nat.le_refl _) fun x _ _ ox hox => hno x ox hox
                rw [h3]
                exact ((I.told t fun i' o' ho' _ => hno i' o' ho').mono (Ren.cut_le _ _)).mono c1.le
              · have e1 : (D i).s.tm.getD t undef = undef := by rw [← hsame.1, List.getD_eq_getElem?_getD, List.getElem?_eq_none (by omega)]; rfl
                have e2 : a.tmps.getD t undef = undef := by rw [Array.getD_eq_getD_getElem?, Array.getElem?_eq_none (by omega)]; rfl
                rw [e1, e2]; exact VR.undef m1
  -- how it goes on
  have main : ∀ (n : Nat) (fuel t : Nat) (listed : Array Bool) (m : Ren) (a : Act) (w : World) (p q : Nat), left ops.size listed ≤ n → left ops.size listed ≤ fuel → Inv K P ops.toList k s.H.next D N m0 w0 a0.defers m a w listed p q →
      ∃ m1 a1 w1, CSt m0 w0 s.H.next s1.H.low m1 w1 ∧ Rel K P m1 s1.H w1 ∧ DfRs m1 s1.df a1.defers ∧ BMR m1 s1.bm b.kind cs ∧
        Ends P b kk y m1 s1 a1 cs w1 (lone (b.atR a (.inRegion ops (Region.linearise.go .any ops fuel t listed []) :: kk)) cs w) := by
    intro n
    induction n with
    | zero =>
      intro fuel t listed m a w p q hn hf I
      exact one fuel t listed m a w p q hf I fun i fuel' t' m' a' w' p' q' hlt _ _ => by omega
    | succ n ih =>
      intro fuel t listed m a w p q hn hf I
      exact one fuel t listed m a w p q hf I fun i fuel' t' m' a' w' p' q' hlt hf' I' => ih fuel' t' _ m' a' w' p' q' (by omega) hf' I'
  obtain ⟨m1, a1, w1, z1, z2, z3, z4, z5⟩ := main _ ops.size t _ m0 a0 _ 0 q0 (Nat.le_refl _) (by
    show ((List.range ops.size).filter _).length ≤ ops.size
    exact Nat.le_trans (List.length_filter_le _ _) (by simp)) I0
  exact ⟨m1, a1, w1, cs, z1, z2, z3, z4, Moved.refl hbm, z5.of_steps (.one hstep0)⟩
end

/-- THE EVALUATOR IS SOUND, regions that draw and all. -/
theorem ev_sound {P : Program} {E : Env} {B : Nat} {gl : GL} (hM : P.follows .mixedOrders = true) (hT : TOK E.T P) (hI : EnvI P E) (hS : EnvS (KE E P B gl) P E) (hE : EnvA E) (hF : FOK E P) (n : Nat) : RecS (KE E P B gl) P (ev E n) :=
  ev_s hT hI hS hE hF (fun _ hA hr => draw_s hM hT hI hS (fun _ _ h => h.2) hE hA hr) n
end Go.U
end
