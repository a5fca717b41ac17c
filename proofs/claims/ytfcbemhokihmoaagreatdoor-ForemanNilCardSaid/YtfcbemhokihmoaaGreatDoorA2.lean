/- What the evaluator leaves alone. · Operations that lay a new block: sound. · A store: sound. · Operations that change memory, all but append: sound. · Store, map update, copy, next: sound. · How append runs. · append: sound. · append: sound. · Operations that are no calls: sound. · Regions that draw: what is checked of their text, and what orders they are run in. · What it is for the evaluator to be sound; calls. · A round of a range over a function: sound. · One operation of a region: sound. · Regions that do not draw; a range over a function. · A range over a function: sound. -/
import Derived.Test.YtfcbemhokihmoaaGreatDoorA1
import Derived.Laws.Append
import Derived.Orders
set_option linter.all false
section
namespace Go.U
set_option autoImplicit false

/-- Nothing that lay was changed. -/
structure QSt (H H1 : AH) : Prop where
  next : H.next ≤ H1.next
  low : H1.low = H.low
  keep : ∀ b, b < H.next → H1.get b = H.get b ∧ H1.gs.get b = H.gs.get b
theorem QSt.refl (H : AH) : QSt H H := ⟨Nat.le_refl _, rfl, fun _ _ => ⟨rfl, rfl⟩⟩
theorem QSt.trans {a b c : AH} (h : QSt a b) (k : QSt b c) : QSt a c :=
  ⟨Nat.le_trans h.next k.next, k.low.trans h.low, fun x hx =>
    have h1 := h.keep x hx
    have h2 := k.keep x (Nat.lt_of_lt_of_le hx h.next)
    ⟨h2.1.trans h1.1, h2.2.trans h1.2⟩⟩
theorem QSt.ast {H H1 : AH} (h : QSt H H1) : ASt H H1 := ⟨h.next, Nat.le_of_eq h.low, fun b hb _ => h.keep b hb⟩
theorem QSt.push (H : AH) (o : AO) : QSt H (H.push o) :=
  ⟨Nat.le_succ _, rfl, fun b hb => ⟨get_push_other H b o (Nat.ne_of_lt hb), rfl⟩⟩

structure RecA (r : Rec) : Prop where
  call : ∀ f args H e H1, r.call f args H = some (e, H1) → ASt H H1
  callD : ∀ f args m H m1 H1, r.callD f args m H = some (m1, H1) → ASt H H1
  code : ∀ c x s x1 s1, r.code c x s = some (x1, s1) → ASt s.H s1.H
def EnvA (E : Env) : Prop := ∀ f args H v H1, E.S f args H = some (some (v, H1)) → QSt H H1

section
variable {E : Env} {r : Rec} (hE : EnvA E) (hr : RecA r)
include hE hr
theorem callIn_ast {f : FuncId} {args : List Value} {H H1 : AH} {e : AEnd} {q : Bool} (h : callIn E r f args H = some (e, H1, q)) :
    ASt H H1 ∧ (q = true → QSt H H1) := by
  simp only [callIn] at h
  split at h
  · rename_i v H' hs
    simp only [Option.some.injEq, Prod.mk.injEq] at h; obtain ⟨_, rfl, rfl⟩ := h
    have := hE _ _ _ _ _ hs
    exact ⟨this.ast, fun _ => this⟩
  · simp at h
  · split at h
    · rename_i v H' hc
      have ha := hr.call _ _ _ _ _ hc
      cases hl : Nat.ble H.next H'.low with
      | true =>
        have hl' : H.next ≤ H'.low := by simpa using hl
        simp only [hl, cond_true] at h
        cases hf : flatV v with
        | true => simp only [hf, cond_true, Option.some.injEq, Prod.mk.injEq] at h; obtain ⟨_, rfl, rfl⟩ := h; exact ⟨ASt.refl _, fun _ => QSt.refl _⟩
        | false =>
          simp only [hf, cond_false, Option.some.injEq, Prod.mk.injEq] at h; obtain ⟨_, rfl, rfl⟩ := h
          have hq : QSt H { H' with low := H.low } := ⟨ha.next, rfl, fun b hb => ha.keep b hb (Nat.lt_of_lt_of_le hb hl')⟩
          exact ⟨hq.ast, fun _ => hq⟩
      | false =>
        simp only [hl, cond_false, Option.some.injEq, Prod.mk.injEq] at h; obtain ⟨_, rfl, rfl⟩ := h
        refine ⟨⟨ha.next, ?_, fun b hb hlo => ha.keep b hb ?_⟩, by simp⟩
        · show (bif Nat.blt H'.low H.low then H'.low else H.low) ≤ H.low
          cases hx : Nat.blt H'.low H.low with
          | true => have := blt_t hx; simp only [cond_true]; omega
          | false => simp
        · change b < (bif Nat.blt H'.low H.low then H'.low else H.low) at hlo
          cases hx : Nat.blt H'.low H.low with
          | true => simpa [hx] using hlo
          | false => have := blt_f hx; simp only [hx, cond_false] at hlo; omega
    · rename_i v H' hc
      have ha := hr.call _ _ _ _ _ hc
      simp only [Option.some.injEq, Prod.mk.injEq] at h; obtain ⟨_, rfl, rfl⟩ := h
      refine ⟨⟨ha.next, ?_, fun b hb hlo => ha.keep b hb ?_⟩, by simp⟩
      · show (bif Nat.blt H'.low H.low then H'.low else H.low) ≤ H.low
        cases hx : Nat.blt H'.low H.low with
        | true => have := blt_t hx; simp only [cond_true]; omega
        | false => simp
      · change b < (bif Nat.blt H'.low H.low then H'.low else H.low) at hlo
        cases hx : Nat.blt H'.low H.low with
        | true => simpa [hx] using hlo
        | false => have := blt_f hx; simp only [hx, cond_false] at hlo; omega
    · simp at h

omit hE in
theorem roundIn_ast {l : Nat} {args : List Value} {H H1 : AH} {e : AEnd} (h : roundIn r l args H = some (e, H1)) : ASt H H1 := by
  simp only [roundIn] at h
  split at h <;> try (simp at h; done)
  rename_i fn tmps ps asg body _ _
  cases hb : Nat.beq args.length ps.length with
  | false => simp [hb] at h
  | true =>
    simp only [hb, cond_true] at h
    split at h <;> try (simp at h; done)
    rename_i s1 h1
    have a1 := hr.code _ _ _ _ _ h1
    split at h <;> try (simp at h; done)
    split at h <;> try (simp at h; done)
    rename_i x s2 h2
    have a2 := hr.code _ _ _ _ _ h2
    have a12 : ASt H s2.H := a1.trans ((ASt.put _ _ _).trans a2)
    split at h <;> try (simp at h; done)
    split at h <;> try (simp at h; done)
    cases x with
    | nrm => simp only [Option.some.injEq, Prod.mk.injEq] at h; obtain ⟨_, rfl⟩ := h; exact a12.trans (ASt.put _ _ _)
    | ret => simp only [Option.some.injEq, Prod.mk.injEq] at h; obtain ⟨_, rfl⟩ := h; exact a12.trans (ASt.put _ _ _)
    | exit id => simp only [Option.some.injEq, Prod.mk.injEq] at h; obtain ⟨_, rfl⟩ := h; exact a12.trans (ASt.put _ _ _)
    | pan v => simp only [Option.some.injEq, Prod.mk.injEq] at h; obtain ⟨_, rfl⟩ := h; exact a12

theorem invokeIn_ast {v : Value} {args : List Value} {H H1 : AH} {e : AEnd} {q : Bool} (h : invokeIn E r v args H = some (e, H1, q)) :
    ASt H H1 ∧ (q = true → QSt H H1) := by
  unfold invokeIn at h
  split at h
  · exact callIn_ast hE hr h
  · split at h
    · rename_i hs
      simp only [Option.some.injEq, Prod.mk.injEq] at h; obtain ⟨_, rfl, rfl⟩ := h
      exact ⟨roundIn_ast hr hs, by simp⟩
    · simp at h
  · simp at h

def ORA (s : St) : OR → Prop
  | .val _ s1 q => ASt s.H s1.H ∧ (q = true → QSt s.H s1.H)
  | .pan _ s1 => ASt s.H s1.H
omit hE hr in
theorem after_ast {s : St} {o : Option (AEnd × AH × Bool)} {res : OR} (h : after s o = some res) (ho : ∀ e H1 q, o = some (e, H1, q) → ASt s.H H1 ∧ (q = true → QSt s.H H1)) : ORA s res := by
  unfold after at h
  split at h
  · simp only [Option.some.injEq] at h; subst h; exact ho _ _ _ rfl
  · simp only [Option.some.injEq] at h; subst h; exact (ho _ _ _ rfl).1
  · simp at h
theorem oper_ast {c : Ctx} {s : St} {o : Oper} {res : OR} (h : oper E r c s o = some res) : ORA s res := by
  unfold oper operE at h
  split at h
  · split at h <;> try (simp at h; done)
    exact after_ast h fun e H1 q hq => invokeIn_ast hE hr hq
  · split at h <;> try (simp at h; done)
    split at h <;> try (simp at h; done)
    split at h <;> try (simp at h; done)
    exact after_ast h fun e H1 q hq => callIn_ast hE hr hq
  · split at h <;> try (simp at h; done)
    all_goals (simp only [Option.some.injEq] at h; subst h; exact ⟨ASt.refl _, fun _ => QSt.refl _⟩)
  · split at h <;> try (simp at h; done)
    simp only [Option.some.injEq] at h; subst h; exact ASt.refl _
  · split at h <;> try (simp at h; done)
    simp only [Option.some.injEq] at h; subst h; exact ⟨ASt.refl _, fun _ => QSt.refl _⟩
  · split at h
    · simp only [Option.some.injEq] at h; subst h; exact ⟨ASt.refl _, fun _ => QSt.refl _⟩
    · split at h
      · simp only [Option.some.injEq] at h; subst h; exact ⟨ASt.refl _, fun _ => QSt.refl _⟩
      · split at h
        · simp only [Option.some.injEq] at h; subst h; exact ⟨ASt.push _ _, fun _ => QSt.push _ _⟩
        · split at h
          · rename_i he
            simp only [Option.some.injEq] at h; subst h; exact ⟨eff_ast he, by simp⟩
          · simp at h

theorem region_ast {c : Ctx} {ops : List Oper} : ∀ (l : List Oper) (s : St) (x : X) (s1 : St), region E r c ops l s = some (x, s1) → ASt s.H s1.H
  | [], s, x, s1, h => by simp only [region, Option.some.injEq, Prod.mk.injEq] at h; obtain ⟨_, rfl⟩ := h; exact ASt.refl _
  | o :: l, s, x, s1, h => by
    simp only [region] at h
    split at h
    · simp at h
    · exact (region_ast l _ x s1 h : _)
    · split at h
      · simp at h
      · rename_i ho
        simp only [Option.some.injEq, Prod.mk.injEq] at h; obtain ⟨_, rfl⟩ := h; exact oper_ast hE hr ho
      · rename_i ho
        exact (oper_ast hE hr ho).1.trans (region_ast l _ x s1 h : _)
theorem stepD_ast {c : Ctx} {ops : List Oper} {k : Nat} {us : List Nat} {n0 : Nat} {o : Oper} {i : Nat} {d d1 : SD} (h : stepD E r c ops k us n0 o i d = some d1) : ASt d.s.H d1.s.H := by
  simp only [stepD] at h
  split at h
  · simp at h
  · simp only [Option.some.injEq] at h; subst h; exact ASt.refl _
  · split at h
    · rename_i ho
      have ha := (oper_ast hE hr ho).1
      split at h
      · simp only [Option.some.injEq] at h; subst h; exact ha
      · split at h
        · rename_i u _ _ b _
          split at h
          · rename_i cl _
            cases hb : (Nat.blt b n0 && !hitS (us.getD i 0) b cl d.ss) with
            | false => rw [hb] at h; simp at h
            | true =>
              rw [hb] at h; simp only [cond_true, Option.some.injEq] at h; subst h; exact ha
          · simp at h
        · simp at h
    · rename_i ho
      have ha := (oper_ast hE hr ho).1
      cases hf : k.testBit i with
      | false => simp [hf] at h
      | true =>
        simp only [hf, cond_true] at h
        split at h
        · rename_i b _
          cases hb : hitF i b (cleanE d.s.H b o.op) d.fs with
          | true => simp [hb] at h
          | false => simp only [hb, cond_false, Option.some.injEq] at h; subst h; exact ha
        · simp only [Option.some.injEq] at h; subst h; exact ha
    · simp at h
theorem regionD_ast {c : Ctx} {ops : List Oper} {k : Nat} {us : List Nat} {n0 : Nat} : ∀ (l : List Oper) (i : Nat) (d : SD) (x : X) (s1 : St), regionD E r c ops k us n0 l i d = some (x, s1) → ASt d.s.H s1.H
  | [], i, d, x, s1, h => by simp only [regionD, Option.some.injEq, Prod.mk.injEq] at h; obtain ⟨_, rfl⟩ := h; exact ASt.refl _
  | o :: l, i, d, x, s1, h => by
    simp only [regionD] at h
    split at h
    · rename_i d1 hs
      exact (stepD_ast hE hr hs).trans (regionD_ast l _ _ x s1 h : _)
    · split at h
      · rename_i ho
        simp only [Option.some.injEq, Prod.mk.injEq] at h; obtain ⟨_, rfl⟩ := h
        exact oper_ast hE hr ho
      · simp at h
omit hE hr in
theorem iter_ast {f : St → Option (X × St)} (hf : ∀ s x s1, f s = some (x, s1) → ASt s.H s1.H) : ∀ (n : Nat) (s : St) (x : X) (s1 : St), iter f n s = some (x, s1) → ASt s.H s1.H
  | 0, _, _, _, h => by simp [iter] at h
  | n + 1, s, x, s1, h => by
    simp only [iter] at h
    split at h
    · rename_i s2 h2
      exact (hf _ _ _ h2).trans (iter_ast hf n _ x s1 h)
    · exact hf _ _ _ h
theorem rangeIn_ast {c : Ctx} {fv : Value} {ps : List Tmp} {asg body : Code} {s : St} {x : X} {s1 : St} (h : rangeIn E r c fv ps asg body s = some (x, s1)) : ASt s.H s1.H := by
  simp only [rangeIn] at h
  split at h
  · simp at h
  · rename_i d s0 h0
    have a0 : ASt s.H s0.H := by
      split at h0
      · simp only [Option.some.injEq, Prod.mk.injEq] at h0; obtain ⟨_, rfl⟩ := h0; exact ASt.push _ _
      · split at h0
        · simp only [Option.some.injEq, Prod.mk.injEq] at h0; obtain ⟨_, rfl⟩ := h0; exact ASt.refl _
        · simp at h0
    split at h <;> try (simp at h; done)
    split at h
    · rename_i hc
      simp only [Option.some.injEq, Prod.mk.injEq] at h; obtain ⟨_, rfl⟩ := h
      exact a0.trans ((ASt.push _ _).trans (callIn_ast hE hr hc).1)
    · rename_i hc
      have a1 := a0.trans ((ASt.push _ _).trans (callIn_ast hE hr hc).1)
      split at h <;> try (simp at h; done)
      split at h <;> try (simp at h; done)
      all_goals (simp only [Option.some.injEq, Prod.mk.injEq] at h; obtain ⟨_, rfl⟩ := h; exact a1.trans (ASt.put _ _ _))
    · simp at h
theorem codeF_ast {c : Ctx} : ∀ (x : Code) (s : St) (y : X) (s1 : St), codeF E r c x s = some (y, s1) → ASt s.H s1.H := by
  intro x
  induction x with
  | skip => intro s y s1 h; simp only [codeF, Option.some.injEq, Prod.mk.injEq] at h; obtain ⟨_, rfl⟩ := h; exact ASt.refl _
  | label l => intro s y s1 h; simp only [codeF, Option.some.injEq, Prod.mk.injEq] at h; obtain ⟨_, rfl⟩ := h; exact ASt.refl _
  | ret => intro s y s1 h; simp only [codeF, Option.some.injEq, Prod.mk.injEq] at h; obtain ⟨_, rfl⟩ := h; exact ASt.refl _
  | exit id => intro s y s1 h; simp only [codeF, Option.some.injEq, Prod.mk.injEq] at h; obtain ⟨_, rfl⟩ := h; exact ASt.refl _
  | region id ops draw =>
    intro s y s1 h
    simp only [codeF] at h
    cases draw with
    | true =>
      simp only [cond_true] at h
      split at h <;> try (simp at h; done)
      exact regionD_ast hE hr _ _ ⟨_, [], []⟩ _ _ h
    | false => simp only [cond_false] at h; exact region_ast hE hr _ _ _ _ h
  | seq a b iha ihb =>
    intro s y s1 h
    simp only [codeF] at h
    split at h
    · rename_i h2; exact (iha _ _ _ h2).trans (ihb _ _ _ h)
    · exact iha _ _ _ h
  | cond c a b iha ihb =>
    intro s y s1 h
    simp only [codeF] at h
    split at h
    · exact iha _ _ _ h
    · exact ihb _ _ _ h
    · simp at h
  | block id a iha =>
    intro s y s1 h
    simp only [codeF] at h
    split at h
    · rename_i j s2 h2
      cases hj : Nat.beq j id with
      | true => simp only [hj, cond_true, Option.some.injEq, Prod.mk.injEq] at h; obtain ⟨_, rfl⟩ := h; exact iha _ _ _ h2
      | false => simp only [hj, cond_false, Option.some.injEq, Prod.mk.injEq] at h; obtain ⟨_, rfl⟩ := h; exact iha _ _ _ h2
    · exact iha _ _ _ h
  | scope a iha => intro s y s1 h; exact iha _ _ _ h
  | loop a iha => intro s y s1 h; simp only [codeF] at h; exact iter_ast iha _ _ _ _ h
  | rangeFunc f ps asg body _ _ =>
    intro s y s1 h
    simp only [codeF] at h
    split at h
    · exact rangeIn_ast hE hr h
    · simp at h
  | goto l => intro s y s1 h; simp [codeF] at h
  | refuse w => intro s y s1 h; simp [codeF] at h
omit hE in
theorem leave_ast : ∀ (l : List Df) (m : BM) (H : AH) (m1 : BM) (H1 : AH), leave r l m H = some (m1, H1) → ASt H H1
  | [], m, H, m1, H1, h => by simp only [leave, Option.some.injEq, Prod.mk.injEq] at h; obtain ⟨_, rfl⟩ := h; exact ASt.refl _
  | .mark b :: l, m, H, m1, H1, h => by
    simp only [leave] at h
    split at h
    · exact (ASt.put _ _ _).trans (leave_ast l _ _ _ _ h)
    · simp at h
  | .fn f args :: l, m, H, m1, H1, h => by
    simp only [leave] at h
    split at h
    · rename_i h2
      exact (hr.callD _ _ _ _ _ _ h2).trans (leave_ast l _ _ _ _ h)
    · simp at h
omit hE in
theorem leaveX_ast {df : List Df} {H : AH} {x : X} {m1 : BM} {H1 : AH} (h : leaveX r df H x = some (m1, H1)) : ASt H H1 := by
  cases x with
  | nrm => exact leave_ast hr _ _ _ _ _ h
  | ret => exact leave_ast hr _ _ _ _ _ h
  | pan v => exact leave_ast hr _ _ _ _ _ h
  | exit id => simp [leaveX] at h
theorem bodyF_ast {f : FuncId} {args : List Value} {bm : BM} {H : AH} {e : AEnd} {m1 : BM} {H1 : AH} (h : bodyF E r f args bm H = some (e, m1, H1)) : ASt H H1 := by
  simp only [bodyF] at h
  split at h <;> try (simp at h; done)
  split at h <;> try (simp at h; done)
  split at h <;> try (simp at h; done)
  rename_i x s hc
  have a1 := codeF_ast hE hr _ _ _ _ hc
  split at h
  · rename_i H2 hl
    have a2 : ASt s.H H2 := leaveX_ast hr hl
    split at h <;> try (simp at h; done)
    simp only [Option.some.injEq, Prod.mk.injEq] at h; obtain ⟨_, _, rfl⟩ := h
    exact a1.trans a2
  · rename_i v H2 hl
    have a2 : ASt s.H H2 := leaveX_ast hr hl
    simp only [Option.some.injEq, Prod.mk.injEq] at h; obtain ⟨_, _, rfl⟩ := h
    exact a1.trans a2
  · simp at h
end
theorem ev_ast {E : Env} (hE : EnvA E) : ∀ n, RecA (ev E n)
  | 0 => ⟨fun _ _ _ _ _ h => by simp [ev] at h, fun _ _ _ _ _ _ h => by simp [ev] at h, fun _ _ _ _ _ h => by simp [ev] at h⟩
  | n + 1 => by
    have ih := ev_ast hE n
    refine ⟨fun f args H e H1 h => ?_, fun f args m H m1 H1 h => ?_, fun c x s x1 s1 h => codeF_ast hE ih _ _ _ _ h⟩
    · simp only [ev] at h
      split at h <;> try (simp at h; done)
      rename_i h2
      simp only [Option.some.injEq, Prod.mk.injEq] at h; obtain ⟨_, rfl⟩ := h
      exact bodyF_ast hE ih h2
    · simp only [ev] at h
      split at h <;> try (simp at h; done)
      rename_i h2
      simp only [Option.some.injEq, Prod.mk.injEq] at h; obtain ⟨_, rfl⟩ := h
      exact bodyF_ast hE ih h2
end Go.U
end

section
namespace Go.U
set_option autoImplicit false

section
variable {K : KK} {T : TT} {P : Program} {m : Ren} {H : AH} {w : World} {e : Operand → Option Value} {ρ : Operand → Value}

/-- An operation's end: a value that the abstract one stands for, a world that the heap H1 stands for. -/
def Does (K : KK) (P : Program) (m : Ren) (H : AH) (w : World) (ρ : Operand → Value) (o : Oper) (v : Value) (H1 : AH) : Prop :=
  ∃ m1 v' w1, VR m1 v v' ∧ ((execOp ρ o).run P w = .ok (.value v') w1 ∨ ((execOp ρ o).run P w = .ok .skip w1 ∧ v' = undef)) ∧ Rel K P m1 H1 w1 ∧ CSt m w H.next H1.low m1 w1

theorem Gives.does {o : Oper} {v : Value} (h : Gives P m ρ o v w) (hR : Rel K P m H w) : Does K P m H w ρ o v H :=
  let ⟨v', h1, h2⟩ := h
  ⟨m, v', w, h1, .inl h2, hR, CSt.refl _ _ _ _⟩

theorem Rel.push (hR : Rel K P m H w) {o : AO} {o' : Obj} (k : Nat) (hn : ∀ cs t g, o ≠ .cells cs t (some g))
    (ho : ORel K (m.bind H.next w.heap.size k) H.gs P.cellsOf H.next o o') : Rel K P (m.bind H.next w.heap.size k) (H.push o) (w.alloc o') := by
  have hf : m.ρ H.next = none := hR.fresh (Nat.le_refl _)
  have hle := m.le_bind H.next w.heap.size k hf
  have hcase : ∀ b x, (m.bind H.next w.heap.size k).ρ b = some x → (b = H.next ∧ x = w.heap.size) ∨ (b ≠ H.next ∧ m.ρ b = some x) := by
    intro b x hb
    by_cases h : b = H.next
    · subst h; rw [Ren.bind_same] at hb; exact .inl ⟨rfl, by simpa using hb.symm⟩
    · rw [Ren.bind_old _ _ _ _ h] at hb; exact .inr ⟨h, hb⟩
  refine ⟨?_, ?_, ?_, ?_, ?_, ?_, ?_, ?_, ?_, hR.ob⟩
  · intro b x hb
    rw [next_push]
    rcases hcase b x hb with ⟨rfl, _⟩ | ⟨_, h⟩
    · omega
    · have := hR.dom b x h; omega
  · intro b x ob hb hob
    rcases hcase b x hb with ⟨rfl, rfl⟩ | ⟨hne, h⟩
    · rw [get_push_same] at hob
      simp only [Option.some.injEq] at hob; subst hob
      exact ⟨o', by show (w.heap.push o')[w.heap.size]? = some o'; simp, by rw [gs_push]; exact ho⟩
    · rw [get_push_other _ _ _ hne] at hob
      obtain ⟨o1, h1, h2⟩ := hR.obj b x ob h hob
      have hx := hR.bnd b x h
      refine ⟨o1, ?_, h2.mono hle h fun cs t g tip kill he hg hk => ⟨tip, kill, by rw [gs_push] at hg; exact hg, hk⟩⟩
      simp only [World.alloc]
      rw [Array.getElem?_push_lt hx, ← h1, Array.getElem?_eq_getElem hx]
  · intro b c x hb hc
    rcases hcase b x hb with ⟨rfl, rfl⟩ | ⟨hne, h⟩ <;> rcases hcase c _ hc with ⟨rfl, hx⟩ | ⟨hne', h'⟩
    · exact .inl rfl
    · have := hR.bnd _ _ h'; omega
    · subst hx; have := hR.bnd _ _ h; omega
    · rcases hR.inj b c x h h' with h1 | ⟨g, cs, t, cs', t', h1, h2⟩
      · exact .inl h1
      · exact .inr ⟨g, cs, t, cs', t', by rw [get_push_other _ _ _ hne]; exact h1, by rw [get_push_other _ _ _ hne']; exact h2⟩
  · intro b x hb
    rw [World.size_alloc]
    rcases hcase b x hb with ⟨rfl, rfl⟩ | ⟨_, h⟩
    · omega
    · have := hR.bnd b x h; omega
  · intro b x cs t g tip kill hb hob hg hk
    rw [gs_push] at hg
    rcases hcase b x hb with ⟨rfl, rfl⟩ | ⟨hne, h⟩
    · rw [get_push_same] at hob; simp only [Option.some.injEq] at hob; exact absurd hob (hn _ _ _)
    · rw [get_push_other _ _ _ hne] at hob
      obtain ⟨h1, h2, h3⟩ := hR.grp b x cs t g tip kill h hob hg hk
      refine ⟨h1, by rw [next_push]; omega, fun o2 ho2 => h3 o2 ?_⟩
      rwa [get_push_other _ _ _ (Nat.ne_of_lt h2)] at ho2
  · intro b x cs t g hb hob
    rw [next_push]
    rcases hcase b x hb with ⟨rfl, rfl⟩ | ⟨hne, h⟩
    · rw [get_push_same] at hob; simp only [Option.some.injEq] at hob; exact absurd hob (hn _ _ _)
    · rw [get_push_other _ _ _ hne] at hob
      have := hR.gbd b x cs t g h hob; omega
  · intro b x hb
    rcases hcase b x hb with ⟨rfl, rfl⟩ | ⟨hne, h⟩
    · exact .inl hR.bsz
    · exact (hR.base b x h).imp_right fun h0 => by rw [get_push_other _ _ _ ‹_›]; exact h0
  · intro x hx
    have hx' := Nat.lt_of_lt_of_le hx hR.bsz
    rw [← hR.gl x hx]
    simp only [World.alloc]
    rw [Array.getElem?_push_lt hx', Array.getElem?_eq_getElem hx']
  · rw [World.size_alloc]; have := hR.bsz; omega
theorem CSt.alloc (hR : Rel K P m H w) (o' : Obj) (k low : Nat) : CSt m w H.next low (m.bind H.next w.heap.size k) (w.alloc o') where
  le := m.le_bind _ _ _ (hR.fresh (Nat.le_refl _))
  new b x hb hm := by
    by_cases h : b = H.next
    · omega
    · rw [Ren.bind_old _ _ _ _ h, hm] at hb; simp at hb
  size := by rw [World.size_alloc]; omega
  frame x hx _ := by simp only [World.alloc]; rw [Array.getElem?_push_lt hx, Array.getElem?_eq_getElem hx]
  fresh b x hb hm hx := by
    by_cases h : b = H.next
    · subst h; rw [Ren.bind_same] at hb; simp at hb; omega
    · rw [Ren.bind_old _ _ _ _ h, hm] at hb; simp at hb

theorem cells_eq (v : Value) : v.cells.toList = cellsL v := by
  cases v <;> first
    | rfl
    | (rename_i cs; cases cs; rfl)
theorem rep_flat (m : Ren) (z : Value) (hz : flatV z = true) : ∀ n, VRs m (rep n (cellsL z)) (rep n (cellsL z))
  | 0 => .nil
  | n + 1 => by
    have h1 : VRs m (cellsL z) (cellsL z) := by have := (VR.flat m z hz).cells; rwa [cells_eq] at this
    exact h1.append (rep_flat m z hz n)
theorem rep_nil : ∀ n, rep n [] = []
  | 0 => rfl
  | n + 1 => by simp [rep, rep_nil n]
theorem rep_length (z : List Value) : ∀ n, (rep n z).length = n * z.length
  | 0 => by simp [rep]
  | n + 1 => by simp [rep, rep_length z n, Nat.add_mul, Nat.add_comm]
theorem range_rep (z : List Value) (d : Value) : ∀ n, (List.range (n * z.length)).map (fun i => z.getD (i % z.length) d) = rep n z
  | 0 => by simp [rep]
  | n + 1 => by
    have : (n + 1) * z.length = z.length + n * z.length := by rw [Nat.add_mul]; omega
    rw [this, List.range_add, List.map_append, List.map_map, rep]
    congr 1
    · apply List.ext_getElem?
      intro i
      simp only [List.getElem?_map]
      by_cases hi : i < z.length
      · simp [List.getElem?_range hi, Nat.mod_eq_of_lt hi, List.getElem?_eq_getElem hi]
      · rw [List.getElem?_eq_none (by simpa using hi), List.getElem?_eq_none (by simpa using hi)]; rfl
    · rw [← range_rep z d n]
      apply List.map_congr_left
      intro i _
      simp
theorem cellsRep (z : Value) (n : Nat) {size : Nat} (hs : (cellsL z).length = size) : ((Array.range (n * size)).map fun i => z.cells[i % z.cells.size]!).toList = rep n (cellsL z) := by
  subst hs
  have hsz : z.cells.size = (cellsL z).length := by rw [← cells_eq]; simp
  rw [Array.toList_map, Array.toList_range, hsz, ← range_rep (cellsL z) default n]
  apply List.map_congr_left
  intro i _
  rw [← cells_eq]
  simp [getElem!_def, List.getD_eq_getElem?_getD]
  cases z.cells[i % z.cells.size]? <;> rfl

theorem s_allocN (hT : TOK T P) (he : OpdR m e ρ) (o : Oper) (ob : AO) (nm : Nat → Value) (h : allocOp T e o.op = some (ob, nm)) (n : Nat) (hf : m.ρ n = none) (gs : Tr (Nat × Nat)) :
    ∃ o' v', (∀ cs t g, ob ≠ .cells cs t (some g)) ∧ ORel K (m.bind n w.heap.size 0) gs P.cellsOf n ob o' ∧ VR (m.bind n w.heap.size 0) (nm n) v' ∧ (execOp ρ o).run P w = .ok (.value v') (w.alloc o') := by
  obtain ⟨dst, op, ty, pos, af, g⟩ := o
  simp only at h
  have hle := m.le_bind n w.heap.size 0 hf
  have hptr : VR (m.bind n w.heap.size 0) (ptrTo n) (.pointer (some ⟨w.heap.size, 0, none⟩)) := .ptr _ _ _ (Ren.bind_same _ _ _ _)
  have fin : ∀ (ob : AO) (o' : Obj) (v v' : Value), (∀ cs t g, ob ≠ .cells cs t (some g)) → ORel K (m.bind n w.heap.size 0) gs P.cellsOf n ob o' → VR (m.bind n w.heap.size 0) v v' →
      (execOp ρ ⟨dst, op, ty, pos, af, g⟩).run P w = .ok (.value v') (w.alloc o') → ∃ o' v', (∀ cs t g, ob ≠ .cells cs t (some g)) ∧ ORel K (m.bind n w.heap.size 0) gs P.cellsOf n ob o' ∧ VR (m.bind n w.heap.size 0) v v' ∧
        (execOp ρ ⟨dst, op, ty, pos, af, g⟩).run P w = .ok (.value v') (w.alloc o') := fun ob o' v v' h1 h2 h3 h4 => ⟨o', v', h1, h2, h3, h4⟩
  unfold allocOp at h
  split at h
  · -- alloc
    rename_i t
    split at h
    · rename_i i hi
      simp only [Option.some.injEq, Prod.mk.injEq] at h; obtain ⟨rfl, rfl⟩ := h
      obtain ⟨inf, d, hk⟩ := hT t i hi
      refine fin _ (.cells i.zero.cells t (0, 0)) _ _ (by simp) (.cells _ _ _ (VR.flat _ _ hk.zflat).cells) hptr ?_
      simp [execOp, Instr.alloc, hk.run_zero, newVar, newRow]
    · simp at h
  · -- box
    rename_i t x
    split at h
    · rename_i v hv
      simp only [Option.some.injEq, Prod.mk.injEq] at h; obtain ⟨rfl, rfl⟩ := h
      refine fin _ (.cells (ρ x).cells t (0, 0)) _ _ (by simp) (.cells _ _ _ ((he x v hv).mono hle).cells) hptr ?_
      simp [execOp, Instr.box, newVar, newRow]
    · simp at h
  · -- buildSlice
    rename_i t nn parts
    split at h
    · rename_i i ps hi hps
      obtain ⟨inf, d, hk⟩ := hT t i hi
      have hdok := hk.dok
      have hpr := parts1_rel he _ _ hps
      split at h
      · rename_i et hd
        rw [hd] at hdok; simp only [DOK] at hdok; subst hdok
        split at h
        · rename_i ei hei
          obtain ⟨inf', d', hk'⟩ := hT et ei hei
          cases hb : (Nat.blt (nn * ei.size) 16777216 && Nat.blt nn HALF) with
          | false => simp [hb] at h
          | true =>
            simp only [hb, cond_true] at h
            rw [Bool.and_eq_true] at hb
            have hb1 := blt_t hb.1
            have hb2 := blt_t hb.2
            split at h
            · rename_i cs hcs
              simp only [Option.some.injEq, Prod.mk.injEq] at h; obtain ⟨rfl, rfl⟩ := h
              have hz := rep_flat m ei.zero hk'.zflat nn
              have hzz : ∃ za : Array Value, za.toList = rep nn (cellsL ei.zero) ∧ (do
                  let zero ← if nn * ei.size = 0 then pure #[] else do pure (← zeroValue et).cells
                  pure ((Array.range (nn * ei.size)).map (zero[· % zero.size]!)) : Sem (Array Value)).run P w = .ok za w := by
                by_cases h0 : nn * ei.size = 0
                · refine ⟨#[], ?_, by simp [h0]⟩
                  rcases Nat.mul_eq_zero.1 h0 with rfl | h1
                  · rfl
                  · have : cellsL ei.zero = [] := List.length_eq_zero_iff.1 (by rw [hk'.zsize, h1])
                    rw [this, rep_nil]
                · exact ⟨_, cellsRep ei.zero nn hk'.zsize, by simp [h0, hk'.run_zero]⟩
              obtain ⟨za, hz1, hz2⟩ := hzz
              rw [← hz1] at hz hcs
              obtain ⟨r', hr1, hr2⟩ := fill_rel (m := m) (fun _ _ hp => hp) _ _ _ _ _ hz hpr hcs
              refine fin _ (.cells r' et (0, 0)) _ (.slice (some ⟨w.heap.size, 0, none⟩) nn nn) (by simp) (.cells _ _ _ (hr2.mono hle)) (.sl _ _ _ _ _ (Ren.bind_same _ _ _ _) (Nat.le_refl _) hb2) ?_
              have hpl : (parts.map fun (i, x) => (i, ρ x)).toList = parts.toList.map fun p => (p.1, ρ p.2) := by simp
              have hng : ¬ (nn * ei.size > 2 ^ 24) := by omega
              simp only [execOp, Instr.buildSlice, Sem.run_bind, hk.run_und, Result.andThen_ok, hk'.run_size, hng, if_false]
              by_cases h0 : nn * ei.size = 0
              · simp [h0] at hz2
                subst hz2
                simp only [h0, if_true, Sem.run_pure, hpl]
                simp [hr1, newRow]
              · simp [h0, hk'.run_zero] at hz2
                simp only [h0, if_false, Sem.run_bind, hk'.run_zero, Sem.run_pure, Result.andThen_ok, hpl]
                simp [hz2, hr1, newRow]
            · simp at h
        · simp at h
      · simp at h
    · simp at h
  · -- makeSlice
    rename_i t l c
    split at h
    · rename_i i lv cv hi hl hc
      obtain ⟨inf, d, hk⟩ := hT t i hi
      have hdok := hk.dok
      split at h
      · rename_i et nn nn' hd hn hn'
        rw [hd] at hdok; simp only [DOK] at hdok; subst hdok
        split at h
        · rename_i ei hei
          obtain ⟨inf', d', hk'⟩ := hT et ei hei
          cases hb : (Nat.beq nn nn' && Nat.ble (ei.bytes * nn) 1073741824 && Nat.blt nn 1073741824) with
          | false => simp [hb] at h
          | true =>
            simp only [hb, cond_true, Option.some.injEq, Prod.mk.injEq] at h; obtain ⟨rfl, rfl⟩ := h
            simp only [Bool.and_eq_true] at hb
            obtain ⟨⟨hb0, hb1⟩, hb2⟩ := hb
            have hb0 : nn = nn' := by simpa using hb0
            have hb1 : ei.bytes * nn ≤ 1073741824 := by simpa using hb1
            have hb2 := blt_t hb2
            subst hb0
            obtain ⟨k1, hk1⟩ := natOf_rel hn (he l _ hl)
            obtain ⟨k2, hk2⟩ := natOf_rel hn' (he c _ hc)
            have hw : IntKind.i64.wrap (nn : Int) = nn := by
              rw [← wrapF_eq]
              show (bif Nat.blt nn 9223372036854775808 then (nn : Int) else IntKind.i64.wrap nn) = nn
              rw [show Nat.blt nn 9223372036854775808 = true by rw [Nat.blt_eq]; omega]
              rfl
            have hz := rep_flat m ei.zero hk'.zflat nn
            have hx1 : ¬ ((281474976710656 : Int) < (ei.bytes : Int) * (nn : Int)) := by
              have := Int.ofNat_le.2 hb1
              rw [Int.natCast_mul] at this
              omega
            have hx0 : ¬ ((nn : Int) < 0) := by omega
            have hzz : ∃ za : Array Value, za.toList = rep nn (cellsL ei.zero) ∧ (do
                let zero ← if nn * ei.size = 0 then pure #[] else do pure (← zeroValue et).cells
                pure ((Array.range (nn * ei.size)).map (zero[· % zero.size]!)) : Sem (Array Value)).run P w = .ok za w := by
              by_cases h0 : nn * ei.size = 0
              · refine ⟨#[], ?_, by simp [h0]⟩
                rcases Nat.mul_eq_zero.1 h0 with rfl | h1
                · rfl
                · have : cellsL ei.zero = [] := List.length_eq_zero_iff.1 (by rw [hk'.zsize, h1])
                  rw [this, rep_nil]
              · exact ⟨_, cellsRep ei.zero nn hk'.zsize, by simp [h0, hk'.run_zero]⟩
            obtain ⟨za, hz1, hz2⟩ := hzz
            rw [← hz1] at hz ⊢
            have hz3 : VRs m za.toList za.toList := by rw [hz1] at hz ⊢; exact hz
            refine fin _ (.cells za et (0, 0)) _ (.slice (some ⟨w.heap.size, 0, none⟩) nn nn) (by simp) (.cells _ _ _ (hz3.mono hle)) (.sl _ _ _ _ _ (Ren.bind_same _ _ _ _) (Nat.le_refl _) (by simp only [HALF]; omega)) ?_
            simp only [execOp, Instr.makeSlice, Sem.run_bind, hk.run_und, Result.andThen_ok, hk1, hk2, asInt, asIntOf, Sem.run_pure, typeInfo, run_program]
            by_cases h0 : nn * ei.size = 0
            · simp [h0] at hz2
              subst hz2
              simp [hk'.info, hk'.bytes, hw, hx1, hx0, hk'.run_size, h0, newRow]
            · simp [h0, hk'.run_zero] at hz2
              simp [hk'.info, hk'.bytes, hw, hx1, hx0, hk'.run_size, h0, hk'.run_zero, newRow, hz2]
        · simp at h
      · simp at h
    · simp at h
  · -- makeMap
    simp only [Option.some.injEq, Prod.mk.injEq] at h; obtain ⟨rfl, rfl⟩ := h
    refine fin _ (.map #[] 0) _ (.map (some w.heap.size)) (by simp) (.map _ _ _ .nil .nil) (.map _ _ (Ren.bind_same _ _ _ _)) ?_
    simp [execOp, Instr.makeMap]
  · -- range
    rename_i t x
    split at h
    · rename_i s i hx hi
      obtain ⟨inf, d, hk⟩ := hT t i hi
      have hdok := hk.dok
      split at h
      · rename_i hd
        rw [hd] at hdok; simp only [DOK] at hdok; subst hdok
        simp only [Option.some.injEq, Prod.mk.injEq] at h; obtain ⟨rfl, rfl⟩ := h
        have hs := rel_str (he x _ hx)
        refine fin _ (.stringIter s 0) _ _ (by simp) (.siter _ _) hptr ?_
        simp [execOp, Instr.range, hk.run_und, hs]
      · simp at h
    · simp at h
  · simp at h

theorem s_alloc (hT : TOK T P) (hR : Rel K P m H w) (he : OpdR m e ρ) (o : Oper) (ob : AO) (nm : Nat → Value) (h : allocOp T e o.op = some (ob, nm)) :
    ∃ m1 v' w1, VR m1 (nm H.next) v' ∧ (execOp ρ o).run P w = .ok (.value v') w1 ∧ Rel K P m1 (H.push ob) w1 ∧ ∀ low, CSt m w H.next low m1 w1 := by
  obtain ⟨o', v', h1, h2, h3, h4⟩ := s_allocN (K := K) (w := w) hT he o ob nm h H.next (hR.fresh (Nat.le_refl _)) H.gs
  exact ⟨_, v', _, h3, h4, hR.push 0 h1 h2, fun low => CSt.alloc hR o' 0 low⟩
end
end Go.U
end

section
namespace Go.U
set_option autoImplicit false

theorem over_take : ∀ (vs l : List Value) (o n : Nat), (over l o vs).take n = over (l.take n) o vs
  | [], _, _, _ => rfl
  | v :: vs, l, o, n => by simp only [over]; rw [over_take vs, List.take_set]
theorem over_eq : ∀ (vs l : List Value) (o : Nat), o + vs.length ≤ l.length → over l o vs = l.take o ++ vs ++ l.drop (o + vs.length)
  | [], l, o, _ => by simp [over]
  | v :: vs, l, o, h => by
    simp only [List.length_cons] at h
    simp only [over]
    rw [over_eq vs _ _ (by rw [List.length_set]; omega)]
    exact list_seg_step l o v vs h
theorem oneL_all : ∀ (vs : List Value), oneL vs = true → ∀ v ∈ vs, v.oneCell' = true
  | [], _, v, h => by simp at h
  | u :: vs, h, v, hv => by
    have h2 : u.oneCell' = true ∧ oneL vs = true := by cases u <;> simp_all [oneL, Value.oneCell']
    rcases List.mem_cons.1 hv with rfl | hv
    · exact h2.1
    · exact oneL_all vs h2.2 v hv
theorem oneC_rel {m : Ren} {v v' : Value} (h : VR m v v') (h1 : v.oneCell' = true) : v'.oneCell' = true := by
  cases h <;> simp_all [Value.oneCell']
theorem oneL_rel {m : Ren} : ∀ {vs vs' : List Value}, VRs m vs vs' → oneL vs = true → ∀ v ∈ vs', v.oneCell' = true
  | [], _, .nil, _, v, hv => by simp at hv
  | u :: vs, _, .cons _ u' _ vs' h1 h2, h, v, hv => by
    have hu := oneL_all (u :: vs) h
    rcases List.mem_cons.1 hv with rfl | hv
    · exact oneC_rel h1 (hu u (by simp))
    · exact oneL_rel h2 (by cases u <;> simp_all [oneL]) v hv

section
variable {K : KK} {T : TT} {P : Program} {m : Ren} {H : AH} {w : World} {e : Operand → Option Value} {ρ : Operand → Value}

theorem cellsAt_get {b : Nat} {cs : List Value} {t : TypeId} {g : Option Nat} (hc : H.cellsAt b = some (cs, t, g)) :
    H.get b = some (.cells cs t g) ∧ ∀ g', g = some g' → ∃ tip kill, H.gs.get g' = some (tip, kill) ∧ Nat.blt b kill = false := by
  simp only [AH.cellsAt] at hc
  split at hc
  · rename_i ho
    simp only [Option.some.injEq, Prod.mk.injEq] at hc; obtain ⟨rfl, rfl, rfl⟩ := hc
    exact ⟨ho, by simp⟩
  · rename_i cs0 t0 g0 ho
    split at hc
    · rename_i tip kill hg
      cases hk : Nat.blt b kill with
      | true => simp [hk] at hc
      | false =>
        simp only [hk, cond_false, Option.some.injEq, Prod.mk.injEq] at hc; obtain ⟨rfl, rfl, rfl⟩ := hc
        exact ⟨ho, fun g' hg' => by cases hg'; exact ⟨tip, kill, hg, hk⟩⟩
    · simp at hc
  · simp at hc

/-- One row changed, nothing new. -/
theorem CSt.setRow {b b' low n : Nat} (hb : m.ρ b = some b') (hl : low ≤ b) (cs : Array Value) : CSt m w n low m (w.setRow b' cs) where
  le := Ren.Le.refl m
  new b x h1 h2 := by rw [h2] at h1; simp at h1
  size := by simp
  frame x _ h := setRow_other w b' x cs (fun e => by subst e; have := h b hb; omega)
  fresh b x h1 h2 := by rw [h2] at h1; simp at h1

theorem Rel.store (hR : Rel K P m H w) {b b' o : Nat} (hb : m.ρ b = some b') {vs vs' : List Value} (hv : VRs m vs vs') {H1 : AH} (h : H.storeAt b o vs = some H1) :
    ∃ w1, (storeCells ⟨b', o, none⟩ vs').run P w = .ok () w1 ∧ Rel K P m H1 w1 ∧ CSt m w H.next H1.low m w1 := by
  have hast := storeAt_ast h
  simp only [AH.storeAt] at h
  split at h <;> try (simp at h; done)
  rename_i cs t g hc
  obtain ⟨hget, hlive⟩ := cellsAt_get hc
  obtain ⟨cs', h1, h2, h3⟩ := hR.cellsAt hb hc
  cases hbb : (oneL vs && Nat.ble (o + vs.length) cs.length) with
  | false => simp [hbb] at h
  | true =>
    simp only [hbb, cond_true] at h
    rw [Bool.and_eq_true] at hbb
    have hone := oneL_rel hv hbb.1
    have hlen : o + vs.length ≤ cs.length := by simpa using hbb.2
    have hl' := hv.length
    have hfit : o + vs'.length ≤ cs'.size := by omega
    have hrun := run_storeCells_at P b' o t vs' 0 cs' w h1 (by simpa using hfit) hone
    simp only [Nat.add_zero] at hrun
    have hN : cs'.toList.take o ++ vs' ++ cs'.toList.drop (o + vs'.length) = over cs'.toList o vs' := (over_eq vs' cs'.toList o (by simpa using hfit)).symm
    rw [hN] at hrun
    have hNl : (over cs'.toList o vs').length = cs'.size := by rw [over_length]; simp
    have hNv : VRs m (over cs o vs) ((over cs'.toList o vs').take (over cs o vs).length) := by
      rw [over_length, over_take]
      exact over_rel _ _ _ _ _ hv h3
    have hh : (w.setRow b' (over cs'.toList o vs').toArray).heap[b']? = some (.cells (over cs'.toList o vs').toArray t (0, 0)) := setRow_heap w b' cs' _ t (0, 0) h1
    have hoth : ∀ x, x ≠ b' → (w.setRow b' (over cs'.toList o vs').toArray).heap[x]? = w.heap[x]? := fun x hx => setRow_other w b' x _ hx
    split at h
    · -- alone
      simp only [Option.some.injEq] at h; subst h
      have huniq : ∀ c, m.ρ c = some b' → c = b := by
        intro c hcb
        rcases hR.inj c b b' hcb hb with h | ⟨g, _, _, _, _, _, hk⟩
        · exact h
        · rw [hget] at hk; simp at hk
      refine ⟨_, hrun, ⟨?_, ?_, ?_, ?_, ?_, ?_, hR.basePut hget (fun c hc => get_put_other _ _ _ _ hc), fun x hx => by rw [hoth x (fun e => by subst e; have := hR.baseS hb hget; omega)]; exact hR.gl x hx, by simpa using hR.bsz, hR.ob⟩, CSt.setRow hb (by rw [low_put]; omega) _⟩
      · exact hR.dom
      · intro c x ob hcx hob
        by_cases hcb : c = b
        · subst hcb
          rw [hb] at hcx; simp only [Option.some.injEq] at hcx; subst hcx
          rw [get_put_same] at hob; simp only [Option.some.injEq] at hob; subst hob
          refine ⟨_, hh, ?_⟩
          have hlen2 : (over cs o vs).length = cs'.size := by
            rw [over_length]
            obtain ⟨o1, h4, h5⟩ := hR.obj c b' _ hb hget
            rw [h1] at h4; simp only [Option.some.injEq] at h4; subst h4
            cases h5 with
            | cells _ _ _ hv5 => have := hv5.length; simpa using this.symm
          rw [hlen2, ← hNl, List.take_length] at hNv
          exact .cells _ _ _ (by simpa using hNv)
        · rw [get_put_other _ _ _ _ hcb] at hob
          obtain ⟨o1, h4, h5⟩ := hR.obj c x ob hcx hob
          have hx : x ≠ b' := fun e => hcb (huniq c (by rw [← e]; exact hcx))
          exact ⟨o1, by rw [hoth x hx]; exact h4, h5⟩
      · intro c d x hcx hdx
        rcases hR.inj c d x hcx hdx with h | ⟨g, ca, ta, cb, tb, k1, k2⟩
        · exact .inl h
        · have n1 : c ≠ b := fun e => by subst e; rw [hget] at k1; simp at k1
          have n2 : d ≠ b := fun e => by subst e; rw [hget] at k2; simp at k2
          exact .inr ⟨g, ca, ta, cb, tb, by rw [get_put_other _ _ _ _ n1]; exact k1, by rw [get_put_other _ _ _ _ n2]; exact k2⟩
      · intro c x hcx; simpa using hR.bnd c x hcx
      · intro c x ca ta g tip kill hcx hca hg hk
        have n1 : c ≠ b := fun e => by subst e; rw [get_put_same] at hca; simp at hca
        rw [get_put_other _ _ _ _ n1] at hca
        obtain ⟨k1, k2, k3⟩ := hR.grp c x ca ta g tip kill hcx hca hg hk
        refine ⟨k1, k2, fun o2 ho2 => ?_⟩
        have n2 : tip ≠ b := fun e => by
          subst e
          obtain ⟨ct, k4, _⟩ := k3 _ hget
          simp at k4
        rw [get_put_other _ _ _ _ n2] at ho2
        exact k3 o2 ho2
      · intro c x ca ta g hcx hca
        have n1 : c ≠ b := fun e => by subst e; rw [get_put_same] at hca; simp at hca
        rw [get_put_other _ _ _ _ n1] at hca
        exact hR.gbd c x ca ta g hcx hca
    · -- a growing row's tip
      rename_i g
      split at h <;> try (simp at h; done)
      rename_i tip kill0 hg
      cases ht : Nat.beq tip b with
      | false => simp [ht] at h
      | true =>
        have ht' : tip = b := by simpa using ht
        subst ht'
        simp only [ht, cond_true, Option.some.injEq] at h
        obtain ⟨_, kill, hg', hkb⟩ := hlive g rfl
        rw [hg] at hg'; simp only [Option.some.injEq, Prod.mk.injEq] at hg'; obtain ⟨rfl, rfl⟩ := hg'
        have hkb' := blt_f hkb
        have hgl : g < H.next := hR.gbd tip b' cs t g hb hget
        have G1 : ∀ c, c ≠ tip → H1.get c = H.get c := fun c hcb => by subst h; exact get_put_other H tip c _ hcb
        have G2 : H1.get tip = some (.cells (over cs o vs) t (some g)) := by subst h; exact get_put_same H tip _
        have G3 : ∀ g', g' ≠ g → H1.gs.get g' = H.gs.get g' := fun g' hn => by subst h; exact Tr.get_set_other _ _ _ _ _ hn.symm
        have G4 : H1.gs.get g = some (tip, tip) := by subst h; exact Tr.get_set_self _ _ _
        have G5 : H1.next = H.next := by subst h; rfl
        have G6 : H1.low ≤ tip := by
          subst h
          rw [low_lower]
          have := low_put H tip (.cells (over cs o vs) t (some g)); simp only [AH.put] at this ⊢; omega
        clear h
        -- an old group that lives in the new heap lived in the old one
        have hgrp : ∀ c ca ta g' tip' kill', H.get c = some (.cells ca ta (some g')) → H1.gs.get g' = some (tip', kill') → Nat.blt c kill' = false →
            ∃ tip2 kill2, H.gs.get g' = some (tip2, kill2) ∧ Nat.blt c kill2 = false := by
          intro c ca ta g' tip' kill' _ k1 k2
          by_cases hgg : g' = g
          · subst hgg
            rw [G4] at k1; simp only [Option.some.injEq, Prod.mk.injEq] at k1; obtain ⟨rfl, rfl⟩ := k1
            refine ⟨tip, kill0, hg, ?_⟩
            have := blt_f k2
            cases hx : Nat.blt c kill0 with
            | false => rfl
            | true => have := blt_t hx; omega
          · rw [G3 g' hgg] at k1; exact ⟨tip', kill', k1, k2⟩
        -- who lives behind the new kill is the tip
        have htip : ∀ c x ca ta, m.ρ c = some x → H.get c = some (.cells ca ta (some g)) → Nat.blt c tip = false → c = tip := by
          intro c x ca ta k1 k2 k3
          have := blt_f k3
          have k4 : Nat.blt c kill0 = false := by
            cases hx : Nat.blt c kill0 with
            | false => rfl
            | true => have := blt_t hx; omega
          have := (hR.grp c x ca ta g tip kill0 k1 k2 hg k4).1
          omega
        refine ⟨_, hrun, ⟨?_, ?_, ?_, ?_, ?_, ?_, hR.basePut hget G1, fun x hx => by rw [hoth x (fun e => by subst e; have := hR.baseS hb hget; omega)]; exact hR.gl x hx, by simpa using hR.bsz, hR.ob⟩, CSt.setRow hb G6 _⟩
        · intro c x hcx; rw [G5]; exact hR.dom c x hcx
        · intro c x ob hcx hob
          by_cases hcb : c = tip
          · subst hcb
            rw [hb] at hcx; simp only [Option.some.injEq] at hcx; subst hcx
            rw [G2] at hob; simp only [Option.some.injEq] at hob; subst hob
            refine ⟨_, hh, ?_⟩
            obtain ⟨o1, h4, h5⟩ := hR.obj c b' _ hb hget
            rw [h1] at h4; simp only [Option.some.injEq] at h4; subst h4
            cases h5 with
            | row _ _ _ _ k1 k2 k3 =>
              exact .row _ _ _ _ (by simpa [hNl] using k1) (by simpa [hNl, over_length] using k2) fun _ _ _ _ => by simpa using hNv
          · rw [G1 c hcb] at hob
            obtain ⟨o1, h4, h5⟩ := hR.obj c x ob hcx hob
            by_cases hx : x = b'
            · subst hx
              rcases hR.inj c tip x hcx hb with hh' | ⟨g', ca, ta, cb, tb, k1, k2⟩
              · exact absurd hh' hcb
              · rw [hget] at k2; simp only [Option.some.injEq, AO.cells.injEq] at k2
                obtain ⟨rfl, rfl, rfl⟩ := k2
                rw [hob] at k1; simp only [Option.some.injEq] at k1; subst k1
                rw [h1] at h4; simp only [Option.some.injEq] at h4; subst h4
                refine ⟨_, hh, ?_⟩
                cases h5 with
                | row _ _ _ _ k3 k4 k5 =>
                  refine .row _ _ _ _ (by simpa [hNl] using k3) (by simpa [hNl] using k4) fun tip' kill' k6 k7 => ?_
                  rw [G4] at k6; simp only [Option.some.injEq, Prod.mk.injEq] at k6; obtain ⟨rfl, rfl⟩ := k6
                  exact absurd (htip c x _ _ hcx hob k7) hcb
            · exact ⟨o1, by rw [hoth x hx]; exact h4, h5.mono (Ren.Le.refl m) hcx fun ca ta g' tip' kill' he k1 k2 => by
                subst he; exact hgrp c ca ta g' tip' kill' hob k1 k2⟩
        · intro c d x hcx hdx
          rcases hR.inj c d x hcx hdx with h | ⟨g', ca, ta, cb, tb, k1, k2⟩
          · exact .inl h
          · have F : ∀ c ca ta, H.get c = some (.cells ca ta (some g')) → ∃ ca' ta', H1.get c = some (.cells ca' ta' (some g')) := by
              intro c ca ta k
              by_cases hcb : c = tip
              · subst hcb
                rw [hget] at k; simp only [Option.some.injEq, AO.cells.injEq] at k
                obtain ⟨rfl, rfl, rfl⟩ := k
                exact ⟨_, _, G2⟩
              · exact ⟨ca, ta, by rw [G1 c hcb]; exact k⟩
            obtain ⟨_, _, f1⟩ := F c ca ta k1
            obtain ⟨_, _, f2⟩ := F d cb tb k2
            exact .inr ⟨g', _, _, _, _, f1, f2⟩
        · intro c x hcx; simpa using hR.bnd c x hcx
        · intro c x ca ta g' tip' kill' hcx hca hg' hk
          rw [G5]
          by_cases hgg : g' = g
          · subst hgg
            rw [G4] at hg'; simp only [Option.some.injEq, Prod.mk.injEq] at hg'; obtain ⟨rfl, rfl⟩ := hg'
            have hcb : c = tip := by
              by_cases hcb : c = tip
              · exact hcb
              · rw [G1 c hcb] at hca; exact htip c x ca ta hcx hca hk
            subst hcb
            rw [G2] at hca; simp only [Option.some.injEq, AO.cells.injEq] at hca
            obtain ⟨rfl, rfl, _⟩ := hca
            refine ⟨Nat.le_refl _, hR.dom _ _ hcx, fun o2 ho2 => ?_⟩
            rw [G2] at ho2; simp only [Option.some.injEq] at ho2
            exact ⟨_, ho2.symm, Nat.le_refl _⟩
          · rw [G3 g' hgg] at hg'
            have hcb : c ≠ tip := fun e => by
              subst e; rw [G2] at hca; simp only [Option.some.injEq, AO.cells.injEq] at hca
              exact hgg hca.2.2.symm
            rw [G1 c hcb] at hca
            obtain ⟨k1, k2, k3⟩ := hR.grp c x ca ta g' tip' kill' hcx hca hg' hk
            refine ⟨k1, k2, fun o2 ho2 => ?_⟩
            have n2 : tip' ≠ tip := fun e => by
              subst e
              obtain ⟨ct, k4, _⟩ := k3 _ hget
              simp only [AO.cells.injEq, Option.some.injEq] at k4
              exact hgg k4.2.2.symm
            rw [G1 _ n2] at ho2
            exact k3 o2 ho2
        · intro c x ca ta g' hcx hca
          rw [G5]
          by_cases hcb : c = tip
          · subst hcb
            rw [G2] at hca; simp only [Option.some.injEq, AO.cells.injEq] at hca
            obtain ⟨_, _, rfl⟩ := hca
            exact hgl
          · rw [G1 c hcb] at hca; exact hR.gbd c x ca ta g' hcx hca
end
end Go.U
end

section
namespace Go.U
set_option autoImplicit false

section
variable {K : KK} {T : TT} {P : Program} {m : Ren} {H : AH} {w : World} {e : Operand → Option Value} {ρ : Operand → Value}

def World.putO (w : World) (b : Nat) (o : Obj) : World := { w with heap := w.heap.setIfInBounds b o }
/-- A block that is no row of cells is changed. -/
theorem Rel.putObj (hR : Rel K P m H w) {b b' : Nat} (hb : m.ρ b = some b') {oo o : AO} {o' : Obj} (hget : H.get b = some oo) (hoo : ∀ cs t g, oo ≠ .cells cs t (some g))
    (hn : ∀ cs t g, o ≠ .cells cs t (some g)) (ho : ORel K m H.gs P.cellsOf b o o') :
    Rel K P m (H.put b o) (World.putO w b' o') ∧ CSt m w H.next (H.put b o).low m (World.putO w b' o') := by
  have hx := hR.bnd b b' hb
  have huniq : ∀ c, m.ρ c = some b' → c = b := by
    intro c hcb
    rcases hR.inj c b b' hcb hb with h | ⟨g, _, _, _, _, _, hk⟩
    · exact h
    · rw [hget] at hk; simp only [Option.some.injEq] at hk; exact absurd hk (hoo _ _ _)
  have hsame : (World.putO w b' o').heap[b']? = some o' := by simp [World.putO, hx]
  have hoth : ∀ x, x ≠ b' → (World.putO w b' o').heap[x]? = w.heap[x]? := fun x hne => by
    simp only [World.putO]; rw [Array.getElem?_setIfInBounds_ne (Ne.symm hne)]
  have hsize : (World.putO w b' o').heap.size = w.heap.size := by simp [World.putO]
  refine ⟨⟨hR.dom, ?_, ?_, ?_, ?_, ?_, hR.basePut hget (fun c hc => get_put_other _ _ _ _ hc), fun x hx => by rw [hoth x (fun e => by subst e; have := hR.baseS hb hget; omega)]; exact hR.gl x hx, by rw [hsize]; exact hR.bsz, hR.ob⟩, ?_⟩
  · intro c x ob hcx hob
    by_cases hcb : c = b
    · subst hcb
      rw [hb] at hcx; simp only [Option.some.injEq] at hcx; subst hcx
      rw [get_put_same] at hob; simp only [Option.some.injEq] at hob; subst hob
      exact ⟨o', hsame, ho⟩
    · rw [get_put_other _ _ _ _ hcb] at hob
      obtain ⟨o1, h4, h5⟩ := hR.obj c x ob hcx hob
      exact ⟨o1, by rw [hoth x fun e => hcb (huniq c (by rw [← e]; exact hcx))]; exact h4, h5⟩
  · intro c d x hcx hdx
    rcases hR.inj c d x hcx hdx with h | ⟨g, ca, ta, cb, tb, k1, k2⟩
    · exact .inl h
    · have n1 : c ≠ b := fun e => by subst e; rw [hget] at k1; simp only [Option.some.injEq] at k1; exact hoo _ _ _ k1
      have n2 : d ≠ b := fun e => by subst e; rw [hget] at k2; simp only [Option.some.injEq] at k2; exact hoo _ _ _ k2
      exact .inr ⟨g, ca, ta, cb, tb, by rw [get_put_other _ _ _ _ n1]; exact k1, by rw [get_put_other _ _ _ _ n2]; exact k2⟩
  · intro c x hcx; rw [hsize]; exact hR.bnd c x hcx
  · intro c x ca ta g tip kill hcx hca hg hk
    have n1 : c ≠ b := fun e => by subst e; rw [get_put_same] at hca; simp only [Option.some.injEq] at hca; exact hn _ _ _ hca
    rw [get_put_other _ _ _ _ n1] at hca
    obtain ⟨k1, k2, k3⟩ := hR.grp c x ca ta g tip kill hcx hca hg hk
    refine ⟨k1, k2, fun o2 ho2 => ?_⟩
    have n2 : tip ≠ b := fun e => by
      subst e
      obtain ⟨ct, k4, _⟩ := k3 _ hget
      exact hoo _ _ _ k4
    rw [get_put_other _ _ _ _ n2] at ho2
    exact k3 o2 ho2
  · intro c x ca ta g hcx hca
    have n1 : c ≠ b := fun e => by subst e; rw [get_put_same] at hca; simp only [Option.some.injEq] at hca; exact hn _ _ _ hca
    rw [get_put_other _ _ _ _ n1] at hca
    exact hR.gbd c x ca ta g hcx hca
  · refine ⟨Ren.Le.refl m, fun b x h1 h2 => by rw [h2] at h1; simp at h1, by rw [hsize]; omega, fun x _ h => hoth x fun e => ?_, fun b x h1 h2 => by rw [h2] at h1; simp at h1⟩
    subst e
    have := h b hb
    rw [low_put] at this
    omega

theorem setKey_rel (q : IntKind) (n : Int) (kk : IntKind) {v v' : Value} (hv : VR m v v') : ∀ (es : List (Value × Value)) (es' : List MapEntry) (i : Nat) (es1 : List (Value × Value)),
    VRs m (es.map (·.1)) (es'.map (·.key)) → VRs m (es.map (·.2)) (es'.map (·.val)) → setKey q n v es = some es1 →
    (Instr.findNow (.int kk) (.int q n) es' i = some none ∧ ∀ x : MapEntry, x.key = .int q n → x.val = v' → VRs m (es1.map (·.1)) ((es' ++ [x]).map (·.key)) ∧ VRs m (es1.map (·.2)) ((es' ++ [x]).map (·.val))) ∨
    (∃ j u, Instr.findNow (.int kk) (.int q n) es' i = some (some (i + j, u)) ∧ (es'[j]?).map (·.key) = some (.int q n) ∧
      VRs m (es1.map (·.1)) ((es'.modify j fun x => { x with key := .int q n, val := v' }).map (·.key)) ∧ VRs m (es1.map (·.2)) ((es'.modify j fun x => { x with key := .int q n, val := v' }).map (·.val)))
  | [], [], i, es1, _, _, h => by
    simp only [setKey, Option.some.injEq] at h; subst h
    exact .inl ⟨rfl, fun x h1 h2 => ⟨by simpa [h1] using VRs.cons _ _ _ _ (.int q n) .nil, by simpa [h2] using VRs.cons _ _ _ _ hv .nil⟩⟩
  | [], _ :: _, i, es1, hk, _, _ => by cases hk
  | _ :: _, [], i, es1, hk, _, _ => by cases hk
  | (k, u) :: es, e' :: es', i, es1, hk, hvv, h => by
    cases hk with
    | cons _ _ _ _ hk1 hk2 =>
      cases hvv with
      | cons _ _ _ _ hv1 hv2 =>
        cases k <;> simp only [setKey] at h <;> try contradiction
        rename_i q' n'
        cases hq : kEq q q' with
        | false => simp [hq] at h
        | true =>
          have := (kEq_iff q q').1 hq
          subst this
          have hk1' := rel_int hk1
          simp only [hq, cond_true, eqI_eq] at h
          cases hn : n == n' with
          | true =>
            simp only [hn, cond_true, Option.some.injEq] at h; subst h
            have hnn : n = n' := by simpa using hn
            subst hnn
            refine .inr ⟨0, e'.val, by simp [Instr.findNow, hk1', Instr.sameNow], by simp [hk1'], ?_, ?_⟩
            · simpa using VRs.cons _ _ _ _ (.int q n) hk2
            · simpa using VRs.cons _ _ _ _ hv hv2
          | false =>
            simp only [hn, cond_false] at h
            split at h <;> try (simp at h; done)
            rename_i l1 hl
            simp only [Option.some.injEq] at h; subst h
            rcases setKey_rel q n kk hv es es' (i + 1) l1 hk2 hv2 hl with ⟨h1, h2⟩ | ⟨j, u', h1, h2, h3, h4⟩
            · refine .inl ⟨by simp [Instr.findNow, hk1', Instr.sameNow, hn, h1], fun x hx1 hx2 => ?_⟩
              obtain ⟨h3, h4⟩ := h2 x hx1 hx2
              exact ⟨by simpa using VRs.cons _ _ _ _ hk1 h3, by simpa using VRs.cons _ _ _ _ hv1 h4⟩
            · refine .inr ⟨j + 1, u', by simp [Instr.findNow, hk1', Instr.sameNow, hn, h1]; omega, by simpa using h2, ?_, ?_⟩
              · simpa using VRs.cons _ _ _ _ hk1 h3
              · simpa using VRs.cons _ _ _ _ hv1 h4

/-- A key of a map is set. -/
theorem s_mapSet (hT : TOK T P) (hR : Rel K P m H w) {t : TypeId} {i : TI} (hi : tget T t = some i) {b b' : Nat} (hb : m.ρ b = some b') {q : IntKind} {n : Int} {v v' : Value} (hv : VR m v v')
    {kt et : TypeId} (hd : i.d = .map kt et) {es es1 : List (Value × Value)} (hget : H.get b = some (.map es)) {ki : TI} (hki : tget T kt = some ki) {kk : IntKind} (hkd : ki.d = .int kk) (hes : setKey q n v es = some es1) :
    ∃ w1, (Instr.mapUpdate t (.map (some b')) (.int q n) v').run P w = .ok () w1 ∧ Rel K P m (H.put b (.map es1)) w1 ∧ CSt m w H.next (H.put b (.map es1)).low m w1 := by
  obtain ⟨inf, d, hk⟩ := hT t i hi
  have hdok := hk.dok
  rw [hd] at hdok; simp only [DOK] at hdok; subst hdok
  obtain ⟨inf2, d2, hk2⟩ := hT kt ki hki
  have hdok2 := hk2.dok
  rw [hkd] at hdok2; simp only [DOK] at hdok2; subst hdok2
  obtain ⟨o1, h1, h2⟩ := hR.obj b b' _ hb hget
  cases h2 with
  | map _ es' cl ha hc =>
    have hck := checkKey_int (P := P) (w := w) false 9999 hk2.und q n
    rw [show (9999 + 1 : Nat) = 10000 from rfl] at hck
    have hkst : ∀ w, (Instr.keyThatStays (.int q n) (.int q n)).run P w = .ok (.int q n) w := fun w => by
      have : Instr.sameBits 10000 (.int q n) (.int q n) = true := by simp [Instr.sameBits]
      simp [Instr.keyThatStays, this]
    rcases setKey_rel (m := m) q n kk hv es es'.toList 0 es1 ha hc hes with ⟨g1, g2⟩ | ⟨j, u, g1, g2, g3, g4⟩
    · have hp := hR.putObj hb hget (by simp) (by simp) (o := .map es1) (o' := .map (es'.push { key := .int q n, val := v', born := cl }) (cl + 1))
        (by
          obtain ⟨x1, x2⟩ := g2 { key := .int q n, val := v', born := cl } rfl rfl
          exact .map _ _ _ (by simpa using x1) (by simpa using x2))
      refine ⟨_, ?_, hp.1, hp.2⟩
      have hfk : (Instr.findKey kt (.int q n) es'.toList).run P w = .ok none w := by
        simp [Instr.findKey, hk2.run_und, g1]
      simp [Instr.mapUpdate, hk.run_und, getObj, setObj, Sem.run, h1, hck, hfk, World.putO]
    · have hp := hR.putObj hb hget (by simp) (by simp) (o := .map es1) (o' := .map (es'.modify j fun x => { x with key := .int q n, val := v' }) cl)
        (.map _ _ _ (by simpa using g3) (by simpa using g4))
      refine ⟨_, ?_, hp.1, hp.2⟩
      have hfk : (Instr.findKey kt (.int q n) es'.toList).run P w = .ok (some (j, u)) w := by
        simp [Instr.findKey, hk2.run_und, g1]
      have hkey : (((es'[j]?).map (·.key)).getD (.int q n)) = .int q n := by
        have : (es'[j]?).map (·.key) = some (.int q n) := by simpa using g2
        rw [this]; rfl
      simp [Instr.mapUpdate, hk.run_und, getObj, setObj, Sem.run, h1, hck, hfk, hkey, hkst, World.putO]
end
end Go.U
end

section
namespace Go.U
set_option autoImplicit false

section
variable {K : KK} {T : TT} {P : Program} {m : Ren} {H : AH} {w : World} {e : Operand → Option Value} {ρ : Operand → Value}

/-- Cells that are read. -/
theorem Rel.loads (hR : Rel K P m H w) {b b' : Nat} (hb : m.ρ b = some b') {cs : List Value} {t : TypeId} {g : Option Nat} (hc : H.cellsAt b = some (cs, t, g)) (o n : Nat) (hl : o + n ≤ cs.length) :
    ∃ l, l.length = n ∧ VRs m ((cs.drop o).take n) l ∧ ∀ w' : World, w'.heap = w.heap → (loadCells ⟨b', o, none⟩ n).run P w' = .ok l.toArray w' := by
  obtain ⟨cs', h1, h2, h3⟩ := hR.cellsAt hb hc
  have hv : VRs m ((cs.drop o).take n) ((cs'.toList.drop o).take n) := by
    have := (h3.drop o).take n
    rwa [List.drop_take, List.take_take, Nat.min_eq_left (by omega)] at this
  have hlen : ((cs'.toList.drop o).take n).length = n := by
    simp only [List.length_take, List.length_drop, Array.length_toList]; omega
  refine ⟨_, hlen, hv, fun w' hw => ?_⟩
  have hrun := run_loadCells_list (P := P) (w := w') ⟨b', o, none⟩ ((cs'.toList.drop o).take n) (by
    intro j u hu
    rw [add_none, cell_at (cs := cs') (t := t) (f := (0, 0)) (by rw [hw]; exact h1)]
    have hj : j < n := by
      rcases Nat.lt_or_ge j n with hh | hh
      · exact hh
      · rw [List.getElem?_eq_none_iff.2 (by omega)] at hu; simp at hu
    rw [List.getElem?_take_of_lt hj, List.getElem?_drop] at hu
    simpa using hu)
  rwa [hlen] at hrun

theorem s_store (hT : TOK T P) (hR : Rel K P m H w) (he : OpdR m e ρ) (dst : Option Tmp) (t : TypeId) (x y : Operand) (ty : TypeId) (pos : String) (af : Array Edge) (g : Option (Nat × Bool)) (v : Value) (H1 : AH)
    (h : effOp T e H (.store t x y) = some (v, H1)) : Does K P m H w ρ ⟨dst, .store t x y, ty, pos, af, g⟩ v H1 := by
  simp only [effOp] at h
  split at h <;> try (simp at h; done)
  rename_i b o u i hx hy hi
  obtain ⟨inf, d, hk⟩ := hT t i hi
  cases hb : Nat.beq (cellsL u).length i.size with
  | false => simp [hb] at h
  | true =>
    simp only [hb, cond_true] at h
    split at h <;> try (simp at h; done)
    rename_i H' hs
    simp only [Option.some.injEq, Prod.mk.injEq] at h; obtain ⟨rfl, rfl⟩ := h
    have hr := he x _ hx
    have hv := he y _ hy
    generalize hz : ρ x = z at hr
    cases hr with
    | ptr _ _ b' hbb =>
      obtain ⟨w1, h1, h2, h3⟩ := hR.store hbb hv.cells hs
      refine ⟨m, undef, w1, VR.undef m, .inr ⟨?_, rfl⟩, h2, h3⟩
      have hl : (ρ y).cells.size = i.size := by
        have := hv.cells.length
        have hb' : (cellsL u).length = i.size := by simpa using hb
        rw [← hb', ← this]; simp
      simp [execOp, Instr.storeAt, hz, Instr.sureAddr, storeVar, hk.run_size, hl, h1]

theorem s_mapUpdate (hT : TOK T P) (hR : Rel K P m H w) (he : OpdR m e ρ) (ins : Bool) (dst : Option Tmp) (t : TypeId) (mm k x : Operand) (ty : TypeId) (pos : String) (af : Array Edge) (g : Option (Nat × Bool)) (v : Value) (H1 : AH)
    (h : effOp T e H (if ins then .insert t mm k x else .mapUpdate t mm k x) = some (v, H1)) : Does K P m H w ρ ⟨dst, if ins then .insert t mm k x else .mapUpdate t mm k x, ty, pos, af, g⟩ v H1 := by
  have h' : (match e mm, e k, e x, tget T t with
    | some (.map (some b)), some (.int q n), some v, some i => match i.d, H.get b with
      | .map kt _, some (.map es) => match tget T kt with
        | some ki => match ki.d, setKey q n v es with
          | .int _, some es1 => some (undef, H.put b (.map es1))
          | _, _ => none
        | none => none
      | _, _ => none
    | _, _, _, _ => none) = some (v, H1) := by cases ins <;> exact h
  clear h
  split at h' <;> try (simp at h'; done)
  rename_i b q n u i hm hk hx hi
  split at h' <;> try (simp at h'; done)
  rename_i kt et es hd hget
  split at h' <;> try (simp at h'; done)
  rename_i ki hki
  split at h' <;> try (simp at h'; done)
  rename_i kk es1 hkd hes
  simp only [Option.some.injEq, Prod.mk.injEq] at h'; obtain ⟨rfl, rfl⟩ := h'
  have hr := he mm _ hm
  have hkv := rel_int (he k _ hk)
  have hv := he x _ hx
  generalize hz : ρ mm = z at hr
  cases hr with
  | map _ b' hbb =>
    obtain ⟨w1, h1, h2, h3⟩ := s_mapSet hT hR hi hbb hv hd hget hki hkd hes
    refine ⟨m, undef, w1, VR.undef m, .inr ⟨?_, rfl⟩, h2, h3⟩
    cases ins <;> simp [execOp, hz, hkv, h1]

theorem s_next (hR : Rel K P m H w) (he : OpdR m e ρ) (dst : Option Tmp) (x : Operand) (b : Bool) (ty : TypeId) (pos : String) (af : Array Edge) (g : Option (Nat × Bool)) (v : Value) (H1 : AH)
    (h : effOp T e H (.next x b) = some (v, H1)) : Does K P m H w ρ ⟨dst, .next x b, ty, pos, af, g⟩ v H1 := by
  cases b with
  | false => simp [effOp] at h
  | true =>
    simp only [effOp] at h
    split at h <;> try (simp at h; done)
    rename_i b hx
    split at h <;> try (simp at h; done)
    rename_i s p hget
    have hr := he x _ hx
    generalize hz : ρ x = z at hr
    cases hr with
    | ptr _ _ b' hbb =>
      obtain ⟨o1, h1, h2⟩ := hR.obj b b' _ hbb hget
      cases h2 with
      | siter =>
        cases hp : Nat.blt p s.size with
        | false =>
          simp only [hp, cond_false, Option.some.injEq, Prod.mk.injEq] at h; obtain ⟨rfl, rfl⟩ := h
          have hp' := blt_f hp
          refine ⟨m, _, w, VR.flat m _ rfl, .inl ?_, hR, CSt.refl _ _ _ _⟩
          simp [execOp, hz, Instr.next, getObj, Sem.run, h1, Nat.not_lt.2 hp']
        | true =>
          simp only [hp, cond_true, Option.some.injEq, Prod.mk.injEq] at h; obtain ⟨rfl, rfl⟩ := h
          have hp' := blt_t hp
          have hpo := hR.putObj hbb hget (by simp) (by simp) (o := .siter s (p + (Utf8.decode s p).2)) (o' := .stringIter s (p + (Utf8.decode s p).2)) (.siter _ _)
          refine ⟨m, _, _, VR.flat m _ rfl, .inl ?_, hpo.1, hpo.2⟩
          simp [execOp, hz, Instr.next, getObj, setObj, Sem.run, h1, hp', World.putO, goInt]

theorem s_copy (hT : TOK T P) (hR : Rel K P m H w) (he : OpdR m e ρ) (dst : Option Tmp) (args : Array Operand) (ats : Array TypeId) (ty : TypeId) (pos : String) (af : Array Edge) (g : Option (Nat × Bool)) (v : Value) (H1 : AH)
    (h : effOp T e H (.call ⟨.builtin .copy, args, ats⟩) = some (v, H1)) : Does K P m H w ρ ⟨dst, .call ⟨.builtin .copy, args, ats⟩, ty, pos, af, g⟩ v H1 := by
  simp only [effOp] at h
  split at h <;> try (simp at h; done)
  rename_i x y t tl hargs hats
  split at h <;> try (simp at h; done)
  rename_i b o n c b' o' n' c' ti hx hy hti
  obtain ⟨inf, d, hk⟩ := hT t ti hti
  have hdok := hk.dok
  split at h <;> try (simp at h; done)
  rename_i et hd
  rw [hd] at hdok; simp only [DOK] at hdok; subst hdok
  split at h <;> try (simp at h; done)
  rename_i ei cs st sg hei hc
  obtain ⟨inf1, d1, hk1⟩ := hT et ei hei
  have ha0 : args = #[x, y] := by apply Array.ext'; simpa using hargs
  subst ha0
  have hat : ats[0]? = some t := by
    have : ats.toList[0]? = some t := by rw [hats]; rfl
    simpa using this
  have hmin : (bif Nat.blt n n' then n else n') = Nat.min n' n := by
    cases hb : Nat.blt n n' with
    | true => have := blt_t hb; simp [Nat.min_def]; omega
    | false => have := blt_f hb; simp [Nat.min_def]; omega
  rw [hmin] at h
  have hsx : ∃ bx cx, ρ x = .slice (some ⟨bx, o, none⟩) n cx ∧ m.ρ b = some bx := by
    have hr := he x _ hx
    generalize ρ x = z at hr
    cases hr with
    | sl _ _ _ _ bx hb => exact ⟨bx, _, rfl, hb⟩
    | slu _ _ _ _ bx hb => exact ⟨bx, _, rfl, hb⟩
  have hsy : ∃ by_ cy, ρ y = .slice (some ⟨by_, o', none⟩) n' cy ∧ m.ρ b' = some by_ := by
    have hr := he y _ hy
    generalize ρ y = z at hr
    cases hr with
    | sl _ _ _ _ bx hb => exact ⟨bx, _, rfl, hb⟩
    | slu _ _ _ _ bx hb => exact ⟨bx, _, rfl, hb⟩
  obtain ⟨bx, cx, hzx, hbx⟩ := hsx
  obtain ⟨by_, cy, hzy, hby⟩ := hsy
  cases hk0 : Nat.beq (Nat.min n' n) 0 with
  | true =>
    simp only [hk0, cond_true, Option.some.injEq, Prod.mk.injEq] at h; obtain ⟨rfl, rfl⟩ := h
    have hk0' : Nat.min n' n = 0 := by simpa using hk0
    refine ⟨m, _, w, VR.flat m _ rfl, .inl ?_, hR, CSt.refl _ _ _ _⟩
    have hl := run_loadCells_list (P := P) (w := w) ⟨by_, o', none⟩ [] (by simp)
    simp only [List.length_nil] at hl
    simp [execOp, resolve, invoke, builtin, Builtin.copy_, hat, hk.run_und, hzx, hzy, Builtin.lenOf, hk1.run_size, Builtin.firstCells, hk0', hl, storeCells, goInt]
  | false =>
    simp only [hk0, cond_false] at h
    cases hb : Nat.ble (o' + Nat.min n' n * ei.size) cs.length with
    | false => simp [hb] at h
    | true =>
      simp only [hb, cond_true] at h
      split at h <;> try (simp at h; done)
      rename_i H' hs
      simp only [Option.some.injEq, Prod.mk.injEq] at h; obtain ⟨rfl, rfl⟩ := h
      have hb' : o' + Nat.min n' n * ei.size ≤ cs.length := by simpa using hb
      obtain ⟨l, hll, hlv, hlr⟩ := hR.loads hby hc o' (Nat.min n' n * ei.size) hb'
      obtain ⟨w1, h1, h2, h3⟩ := hR.store hbx hlv hs
      refine ⟨m, _, w1, VR.flat m _ rfl, .inl ?_, h2, h3⟩
      have hlr' := hlr w rfl
      simp [execOp, resolve, invoke, builtin, Builtin.copy_, hat, hk.run_und, hzx, hzy, Builtin.lenOf, hk1.run_size, Builtin.firstCells, hlr', h1, goInt]
end
end Go.U
end

section
namespace Go.U
set_option autoImplicit false

section
variable {P : Program} {w : World}
/-- What is appended: n elements, cells new. -/
inductive AppArg (P : Program) (w : World) (et : TypeId) (size : Nat) (z : Value) (u : TypeId) (y : Value) (n : Nat) (new : Array Value) : Prop
  | zs (k k' : IntKind) : P.underlying u = some (.int k) → y = .int k' (n : Int) → n < 1048576 → new = (if n * size = 0 then #[] else Builtin.zeroCells z.cells n) → AppArg P w et size z u y n new
  | sl (e2 : TypeId) (a : Option Addr) (c : Nat) : P.underlying u = some (.slice e2) → y = .slice a n c → (∀ w' : World, w'.heap = w.heap → (Builtin.firstCells size n y).run P w' = .ok new w') → AppArg P w et size z u y n new

theorem wrap_small {n : Nat} (h : n < 1048576) : IntKind.i64.wrap (n : Int) = n := by
  rw [← wrapF_eq]
  show (bif Nat.blt n 9223372036854775808 then (n : Int) else IntKind.i64.wrap n) = n
  rw [show Nat.blt n 9223372036854775808 = true by rw [Nat.blt_eq]; omega]
  rfl

variable {t u et ty : TypeId} {ats : Array TypeId} {inf : TypeInfo} {ei : TI} {d : TypeDesc} {y : Value} {n : Nat} {new : Array Value} {base : Option Addr} {sLen sCap : Nat}

theorem run_app_fit (h0 : ats[0]? = some t) (h1 : ats[1]? = some u) (ht : P.underlying t = some (.slice et)) (hk : TIOK P et ei inf d) (hb : ei.bytes < 65536)
    (ha : AppArg P w et ei.size ei.zero u y n new) (hf : sLen + n ≤ sCap) {w1 : World}
    (hs : match base with | some a => (storeCells (a.add (sLen * ei.size)) new.toList).run P w = .ok () w1 | none => w1 = w) :
    (Builtin.append_ ats ty #[.slice base sLen sCap, y]).run P w = .ok (.slice base (sLen + n) sCap) w1 := by
  cases ha with
  | zs k k' hu hy hn hnew =>
    subst hy
    have hl : ¬ ((n : Int) < 0) := by omega
    have hx : ¬ ((281474976710656 : Int) < (n : Int) * (ei.bytes : Int)) := by
      have h2 : n * ei.bytes ≤ 1048576 * 65536 := Nat.mul_le_mul (by omega) (by omega)
      have := Int.ofNat_le.2 h2
      rw [Int.natCast_mul] at this
      omega
    have happ : (if n * ei.size = 0 then pure #[] else do pure (Builtin.zeroCells (← zeroValue et).cells n) : Sem (Array Value)).run P w = .ok new w := by
      by_cases h0 : n * ei.size = 0
      · simp [h0] at hnew ⊢; exact hnew
      · simp [h0] at hnew ⊢; simp [hk.run_zero, hnew]
    by_cases hz : n * ei.size = 0
    · simp [hz] at happ
      subst happ
      cases base with
      | none =>
        simp only at hs; subst hs
        simp [Builtin.append_, h0, h1, underlying, ht, hu, sizeOf, typeInfo, hk.info, hk.size, hk.bytes, asInt, asIntOf, wrap_small hn, hl, hx, hf, hz]
      | some a =>
        simp only at hs
        simp only [storeCells] at hs
        simp [Builtin.append_, h0, h1, underlying, ht, hu, sizeOf, typeInfo, hk.info, hk.size, hk.bytes, asInt, asIntOf, wrap_small hn, hl, hx, hf, hz, storeCells]
        simpa using hs
    · simp [hz, hk.run_zero] at happ
      subst happ
      cases base with
      | none =>
        simp only at hs; subst hs
        simp [Builtin.append_, h0, h1, underlying, ht, hu, sizeOf, typeInfo, hk.info, hk.size, hk.bytes, asInt, asIntOf, wrap_small hn, hl, hx, hf, hz, hk.run_zero]
      | some a =>
        simp only at hs
        simp [Builtin.append_, h0, h1, underlying, ht, hu, sizeOf, typeInfo, hk.info, hk.size, hk.bytes, asInt, asIntOf, wrap_small hn, hl, hx, hf, hz, hk.run_zero, hs]
  | sl e2 a2 c hu hy hr =>
    have hr' := hr w rfl
    subst hy
    cases base with
    | none =>
      simp only at hs; subst hs
      simp [Builtin.append_, h0, h1, underlying, ht, hu, sizeOf, typeInfo, hk.info, hk.size, Builtin.lenOf, hf, hr']
    | some a =>
      simp only at hs
      simp [Builtin.append_, h0, h1, underlying, ht, hu, sizeOf, typeInfo, hk.info, hk.size, Builtin.lenOf, hf, hr', hs]

theorem run_app_grow (h0 : ats[0]? = some t) (h1 : ats[1]? = some u) (ht : P.underlying t = some (.slice et)) (hk : TIOK P et ei inf d) (hb : ei.bytes < 65536) (hb0 : 0 < ei.bytes)
    (ha : AppArg P w et ei.size ei.zero u y n new) (hf : sCap < sLen + n) (hn : sLen + n < 1048576) {old : Array Value}
    (hs : ∀ w' : World, w'.heap = w.heap → (Builtin.firstCells ei.size sLen (.slice base sLen sCap)).run P w' = .ok old w') :
    (Builtin.append_ ats ty #[.slice base sLen sCap, y]).run P w = .ok (.slice (some ⟨w.heap.size, 0, none⟩) (sLen + n) (grownCap w (sLen + n) sCap et))
      (w.drew.alloc (.cells (old ++ new ++ Builtin.zeroCells ei.zero.cells (grownCap w (sLen + n) sCap et - (sLen + n))) et)) := by
  have hn0 : ¬ (sLen + n ≤ sCap) := by omega
  have h63 : ¬ ((9223372036854775807 : Int) < (sLen : Int) + (n : Int)) := by omega
  have h48 : ¬ (281474976710656 < Builtin.nextslicecap (sLen + n) sCap * ei.bytes) := by
    have h2 := nextslicecap_le hf
    have h3 : Builtin.nextslicecap (sLen + n) sCap * ei.bytes ≤ 2097152 * 65536 := Nat.mul_le_mul (by omega) (by omega)
    omega
  have hs' := hs w.drew rfl
  cases ha with
  | zs k k' hu hy hnn hnew =>
    subst hy
    have hl : ¬ ((n : Int) < 0) := by omega
    have hx : ¬ ((281474976710656 : Int) < (n : Int) * (ei.bytes : Int)) := by
      have h2 : n * ei.bytes ≤ 1048576 * 65536 := Nat.mul_le_mul (by omega) (by omega)
      have := Int.ofNat_le.2 h2
      rw [Int.natCast_mul] at this
      omega
    by_cases hz : n * ei.size = 0
    · simp [hz] at hnew
      subst hnew
      simp [Builtin.append_, h0, h1, underlying, ht, hu, sizeOf, typeInfo, zeroValue, hk.info, hk.size, hk.bytes, hk.zero, asInt, asIntOf, wrap_small hnn, hl, hx, hn0, hz, h63, h48, Question.forced, hs', newRow, grownCap]
    · simp [hz] at hnew
      subst hnew
      simp [Builtin.append_, h0, h1, underlying, ht, hu, sizeOf, typeInfo, zeroValue, hk.info, hk.size, hk.bytes, hk.zero, asInt, asIntOf, wrap_small hnn, hl, hx, hn0, hz, h63, h48, Question.forced, hs', newRow, grownCap]
  | sl e2 a2 c hu hy hr =>
    have hr' := hr w.drew rfl
    subst hy
    have hbz : ¬ (ei.bytes = 0) := by omega
    simp [Builtin.append_, h0, h1, underlying, ht, hu, sizeOf, typeInfo, zeroValue, hk.info, hk.size, hk.bytes, hk.zero, Builtin.lenOf, hn0, hbz, h48, Question.forced, hs', hr', newRow, grownCap]

theorem zeroCells_list (z : Value) (n : Nat) : (Builtin.zeroCells z.cells n).toList = rep n (cellsL z) := by
  have := cellsRep z n (size := z.cells.size) (by rw [← cells_eq]; simp)
  simpa [Builtin.zeroCells] using this
theorem grownCap_ge (w : World) (need old : Nat) (e : TypeId) : need ≤ grownCap w need old e := by
  simp only [grownCap, Question.cut]; omega
end
end Go.U
end

section
namespace Go.U
set_option autoImplicit false

section
variable {K : KK} {T : TT} {P : Program} {m : Ren} {H : AH} {w : World} {e : Operand → Option Value} {ρ : Operand → Value}

/-- A row more, in the group g; w1's heap is w's and one block more. -/
theorem Rel.pushRow (hR : Rel K P m H w) {new : List Value} {et : TypeId} {g kill k : Nat} {cs' : Array Value} {H1 : AH} {w1 : World}
    (G1 : H1.next = H.next + 1) (G2 : H1.get H.next = some (.cells new et (some g))) (G3 : ∀ b, b ≠ H.next → H1.get b = H.get b)
    (G4 : H1.gs.get g = some (H.next, kill)) (G5 : ∀ g', g' ≠ g → H1.gs.get g' = H.gs.get g') (G6 : g ≤ H.next)
    (hold : ∀ c x ca ta, m.ρ c = some x → H.get c = some (.cells ca ta (some g)) → Nat.blt c kill = false → (ca.length ≤ new.length ∧ ta = et) ∧ ∃ tip, H.gs.get g = some (tip, kill))
    (hw : w1.heap = w.heap.push (.cells cs' et (0, 0))) (hob : w1.os = w.os ∧ w1.output = w.output)
    (h1 : cs'.size = k * P.cellsOf et) (h2 : new.length ≤ cs'.size) (h3 : VRs m new (cs'.toList.take new.length)) :
    Rel K P (m.bind H.next w.heap.size k) H1 w1 := by
  have hf : m.ρ H.next = none := hR.fresh (Nat.le_refl _)
  have hle := m.le_bind H.next w.heap.size k hf
  have hcase : ∀ b x, (m.bind H.next w.heap.size k).ρ b = some x → (b = H.next ∧ x = w.heap.size) ∨ (b ≠ H.next ∧ m.ρ b = some x) := by
    intro b x hb
    by_cases h : b = H.next
    · subst h; rw [Ren.bind_same] at hb; exact .inl ⟨rfl, by simpa using hb.symm⟩
    · rw [Ren.bind_old _ _ _ _ h] at hb; exact .inr ⟨h, hb⟩
  have hlt : ∀ x, x < w.heap.size → w1.heap[x]? = w.heap[x]? := fun x hx => by rw [hw, Array.getElem?_push_lt hx, Array.getElem?_eq_getElem hx]
  have hsz : w1.heap.size = w.heap.size + 1 := by rw [hw]; simp
  refine ⟨?_, ?_, ?_, ?_, ?_, ?_, ?_, ?_, ?_, ⟨hob.1.trans hR.ob.1, hob.2.trans hR.ob.2⟩⟩
  · intro b x hb
    rw [G1]
    rcases hcase b x hb with ⟨rfl, _⟩ | ⟨_, h⟩
    · omega
    · have := hR.dom b x h; omega
  · intro b x ob hb hob
    rcases hcase b x hb with ⟨rfl, rfl⟩ | ⟨hne, h⟩
    · rw [G2] at hob
      simp only [Option.some.injEq] at hob; subst hob
      exact ⟨.cells cs' et (0, 0), by rw [hw]; simp, .row _ _ _ _ (by rw [Ren.bind_κ]; exact h1) h2 fun _ _ _ _ => h3.mono hle⟩
    · rw [G3 _ hne] at hob
      obtain ⟨o1, h4, h5⟩ := hR.obj b x ob h hob
      refine ⟨o1, by rw [hlt x (hR.bnd b x h)]; exact h4, h5.mono hle h fun ca ta g' tip' kill' he hg hk => ?_⟩
      subst he
      by_cases hgg : g' = g
      · subst hgg
        rw [G4] at hg; simp only [Option.some.injEq, Prod.mk.injEq] at hg; obtain ⟨rfl, rfl⟩ := hg
        obtain ⟨_, tip, h6⟩ := hold b x ca ta h hob hk
        exact ⟨tip, kill, h6, hk⟩
      · rw [G5 _ hgg] at hg; exact ⟨tip', kill', hg, hk⟩
  · intro b c x hb hc
    rcases hcase b x hb with ⟨rfl, rfl⟩ | ⟨hne, h⟩ <;> rcases hcase c _ hc with ⟨rfl, hx⟩ | ⟨hne', h'⟩
    · exact .inl rfl
    · have := hR.bnd _ _ h'; omega
    · subst hx; have := hR.bnd _ _ h; omega
    · rcases hR.inj b c x h h' with h1 | ⟨g, cs, t, cs', t', h1, h2⟩
      · exact .inl h1
      · exact .inr ⟨g, cs, t, cs', t', by rw [G3 _ hne]; exact h1, by rw [G3 _ hne']; exact h2⟩
  · intro b x hb
    rw [hsz]
    rcases hcase b x hb with ⟨rfl, rfl⟩ | ⟨_, h⟩
    · omega
    · have := hR.bnd b x h; omega
  · intro b x ca ta g' tip' kill' hb hob hg hk
    rw [G1]
    by_cases hgg : g' = g
    · subst hgg
      rw [G4] at hg; simp only [Option.some.injEq, Prod.mk.injEq] at hg; obtain ⟨rfl, rfl⟩ := hg
      have hlen : b ≤ H.next ∧ ca.length ≤ new.length := by
        rcases hcase b x hb with ⟨rfl, rfl⟩ | ⟨hne, h⟩
        · rw [G2] at hob; simp only [Option.some.injEq, AO.cells.injEq] at hob; obtain ⟨rfl, _, _⟩ := hob
          exact ⟨Nat.le_refl _, Nat.le_refl _⟩
        · rw [G3 _ hne] at hob
          have := hR.dom b x h
          exact ⟨by omega, (hold b x ca ta h hob hk).1.1⟩
      refine ⟨hlen.1, by omega, fun o2 ho2 => ?_⟩
      rw [G2] at ho2; simp only [Option.some.injEq] at ho2
      subst ho2
      have htt : ta = et := by
        rcases hcase b x hb with ⟨rfl, rfl⟩ | ⟨hne, h⟩
        · rw [G2] at hob; simp only [Option.some.injEq, AO.cells.injEq] at hob; exact hob.2.1.symm
        · rw [G3 _ hne] at hob; exact (hold b x ca ta h hob hk).1.2
      subst htt
      exact ⟨_, rfl, hlen.2⟩
    · rw [G5 _ hgg] at hg
      have hne : b ≠ H.next := fun e => by
        subst e; rw [G2] at hob; simp only [Option.some.injEq, AO.cells.injEq] at hob; exact hgg hob.2.2.symm
      rcases hcase b x hb with ⟨rfl, rfl⟩ | ⟨_, h⟩
      · exact absurd rfl hne
      · rw [G3 _ hne] at hob
        obtain ⟨k1, k2, k3⟩ := hR.grp b x ca ta g' tip' kill' h hob hg hk
        refine ⟨k1, by omega, fun o2 ho2 => k3 o2 ?_⟩
        rwa [G3 _ (Nat.ne_of_lt k2)] at ho2
  · intro b x ca ta g' hb hob
    rw [G1]
    rcases hcase b x hb with ⟨rfl, rfl⟩ | ⟨hne, h⟩
    · rw [G2] at hob; simp only [Option.some.injEq, AO.cells.injEq] at hob; obtain ⟨_, _, rfl⟩ := hob; omega
    · rw [G3 _ hne] at hob
      have := hR.gbd b x ca ta g' h hob; omega
  · intro b x hb
    rcases hcase b x hb with ⟨rfl, rfl⟩ | ⟨hne, h⟩
    · exact .inl hR.bsz
    · exact (hR.base b x h).imp_right fun h0 => by rw [G3 _ ‹_›]; exact h0
  · intro x hx
    rw [hlt x (Nat.lt_of_lt_of_le hx hR.bsz)]; exact hR.gl x hx
  · rw [hsz]; have := hR.bsz; omega

/-- A growing row's tip grows where it lies. -/
theorem Rel.growIn (hR : Rel K P m H w) {b b' : Nat} (hb : m.ρ b = some b') {cs new : List Value} {et : TypeId} {g kill : Nat} {cur : Array Value} {new' : List Value} {H1 : AH}
    (hget : H.get b = some (.cells cs et (some g))) (hg0 : H.gs.get g = some (b, kill)) (hk0 : Nat.blt b kill = false) (hcur : w.heap[b']? = some (.cells cur et (0, 0)))
    (G1 : H1.next = H.next + 1) (G2 : H1.get H.next = some (.cells (cs ++ new) et (some g))) (G3 : ∀ c, c ≠ H.next → H1.get c = H.get c)
    (G4 : H1.gs.get g = some (H.next, kill)) (G5 : ∀ g', g' ≠ g → H1.gs.get g' = H.gs.get g')
    (hv : VRs m new new') (hfit : cs.length + new.length ≤ cur.size) :
    Rel K P (m.bind H.next b' (m.κ b)) H1 (w.setRow b' (over cur.toList cs.length new').toArray) := by
  have hf : m.ρ H.next = none := hR.fresh (Nat.le_refl _)
  have hle := m.le_bind H.next b' (m.κ b) hf
  have hcase : ∀ c x, (m.bind H.next b' (m.κ b)).ρ c = some x → (c = H.next ∧ x = b') ∨ (c ≠ H.next ∧ m.ρ c = some x) := by
    intro c x hb
    by_cases h : c = H.next
    · subst h; rw [Ren.bind_same] at hb; exact .inl ⟨rfl, by simpa using hb.symm⟩
    · rw [Ren.bind_old _ _ _ _ h] at hb; exact .inr ⟨h, hb⟩
  have hbl := hR.dom b b' hb
  have hbn : b ≠ H.next := Nat.ne_of_lt hbl
  have hl' := hv.length
  have hN : (over cur.toList cs.length new').length = cur.size := by rw [over_length]; simp
  have hh : (w.setRow b' (over cur.toList cs.length new').toArray).heap[b']? = some (.cells (over cur.toList cs.length new').toArray et (0, 0)) := setRow_heap w b' cur _ et (0, 0) hcur
  have hoth : ∀ x, x ≠ b' → (w.setRow b' (over cur.toList cs.length new').toArray).heap[x]? = w.heap[x]? := fun x hx => setRow_other w b' x _ hx
  -- the tip's own relation
  obtain ⟨o0, k0, k1⟩ := hR.obj b b' _ hb hget
  rw [hcur] at k0; simp only [Option.some.injEq] at k0; subst k0
  have htip : cur.size = m.κ b * P.cellsOf et ∧ VRs m cs (cur.toList.take cs.length) := by
    cases k1 with
    | row _ _ _ _ a1 a2 a3 => exact ⟨a1, a3 _ _ hg0 hk0⟩
  -- below the tip's end nothing changes
  have hbelow : ∀ n, n ≤ cs.length → (over cur.toList cs.length new').take n = cur.toList.take n := by
    intro n hn
    rw [over_eq _ _ _ (by simp; omega), List.append_assoc, List.take_append_of_le_length (by simp; omega), List.take_take, Nat.min_eq_left hn]
  have hall : ∀ c x ca ta, m.ρ c = some x → H.get c = some (.cells ca ta (some g)) → Nat.blt c kill = false → ca.length ≤ cs.length ∧ ta = et := by
    intro c x ca ta h1 h2 h3
    obtain ⟨_, _, h4⟩ := hR.grp c x ca ta g b kill h1 h2 hg0 h3
    obtain ⟨ct, h5, h6⟩ := h4 _ hget
    simp only [AO.cells.injEq] at h5
    obtain ⟨rfl, rfl, _⟩ := h5
    exact ⟨h6, rfl⟩
  have hkin : ∀ c, m.ρ c = some b' → ∃ ca ta, H.get c = some (.cells ca ta (some g)) := by
    intro c hc
    rcases hR.inj c b b' hc hb with rfl | ⟨g', ca, ta, cb, tb, h1, h2⟩
    · exact ⟨_, _, hget⟩
    · rw [hget] at h2; simp only [Option.some.injEq, AO.cells.injEq] at h2; obtain ⟨_, _, rfl⟩ := h2
      exact ⟨ca, ta, h1⟩
  have hgs : ∀ g' tip' kill', H1.gs.get g' = some (tip', kill') → ∃ tip2, H.gs.get g' = some (tip2, kill') := by
    intro g' tip' kill' h
    by_cases hgg : g' = g
    · subst hgg; rw [G4] at h; simp only [Option.some.injEq, Prod.mk.injEq] at h; obtain ⟨rfl, rfl⟩ := h; exact ⟨_, hg0⟩
    · rw [G5 _ hgg] at h; exact ⟨_, h⟩
  refine ⟨?_, ?_, ?_, ?_, ?_, ?_, ?_, ?_, ?_, hR.ob⟩
  · intro c x hc
    rw [G1]
    rcases hcase c x hc with ⟨rfl, _⟩ | ⟨_, h⟩
    · omega
    · have := hR.dom c x h; omega
  · intro c x ob hc hob
    rcases hcase c x hc with ⟨rfl, rfl⟩ | ⟨hne, h⟩
    · rw [G2] at hob
      simp only [Option.some.injEq] at hob; subst hob
      refine ⟨_, hh, .row _ _ _ _ (by rw [Ren.bind_κ]; simp [hN, htip.1]) (by simp [hN]; exact hfit) fun _ _ _ _ => ?_⟩
      have hx : ((over cur.toList cs.length new').toArray.toList.take (cs ++ new).length) = cur.toList.take cs.length ++ new' := by
        simp only [List.length_append]
        rw [over_eq _ _ _ (by simp; omega), ← hl']
        rw [List.take_append_of_le_length (by simp; omega)]
        rw [List.take_of_length_le (by simp; omega)]
      rw [hx]
      exact ((htip.2.append hv).mono hle)
    · rw [G3 _ hne] at hob
      obtain ⟨o1, h4, h5⟩ := hR.obj c x ob h hob
      by_cases hx : x = b'
      · subst hx
        obtain ⟨ca, ta, h6⟩ := hkin c h
        rw [hob] at h6; simp only [Option.some.injEq] at h6; subst h6
        rw [hcur] at h4; simp only [Option.some.injEq] at h4; subst h4
        refine ⟨_, hh, ?_⟩
        cases h5 with
        | row _ _ _ _ a1 a2 a3 =>
          refine .row _ _ _ _ (by rw [hle.κ _ _ h]; simpa [hN] using a1) (by simpa [hN] using a2) fun tip' kill' a4 a5 => ?_
          obtain ⟨tip2, a6⟩ := hgs _ _ _ a4
          have hkk : kill' = kill := by rw [hg0] at a6; simp only [Option.some.injEq, Prod.mk.injEq] at a6; exact a6.2.symm
          subst hkk
          have := (hall c x _ _ h hob a5).1
          rw [hbelow _ this]
          exact (a3 _ _ a6 a5).mono hle
      · exact ⟨o1, by rw [hoth x hx]; exact h4, h5.mono hle h fun ca ta g' tip' kill' he hg hk => by
          obtain ⟨tip2, a6⟩ := hgs _ _ _ hg
          exact ⟨tip2, kill', a6, hk⟩⟩
  · intro c d x hc hd
    rcases hcase c x hc with ⟨rfl, rfl⟩ | ⟨hne, h⟩ <;> rcases hcase d _ hd with ⟨rfl, hx⟩ | ⟨hne', h'⟩
    · exact .inl rfl
    · obtain ⟨ca, ta, h6⟩ := hkin d h'
      exact .inr ⟨g, _, _, _, _, G2, by rw [G3 _ hne']; exact h6⟩
    · subst hx
      obtain ⟨ca, ta, h6⟩ := hkin c h
      exact .inr ⟨g, _, _, _, _, by rw [G3 _ hne]; exact h6, G2⟩
    · rcases hR.inj c d x h h' with h1 | ⟨g, cs, t, cs', t', h1, h2⟩
      · exact .inl h1
      · exact .inr ⟨g, cs, t, cs', t', by rw [G3 _ hne]; exact h1, by rw [G3 _ hne']; exact h2⟩
  · intro c x hc
    rw [setRow_size]
    rcases hcase c x hc with ⟨rfl, rfl⟩ | ⟨_, h⟩
    · exact hR.bnd b _ hb
    · exact hR.bnd c x h
  · intro c x ca ta g' tip' kill' hc hob hg hk
    rw [G1]
    by_cases hgg : g' = g
    · subst hgg
      rw [G4] at hg; simp only [Option.some.injEq, Prod.mk.injEq] at hg; obtain ⟨rfl, rfl⟩ := hg
      rcases hcase c x hc with ⟨rfl, rfl⟩ | ⟨hne, h⟩
      · rw [G2] at hob; simp only [Option.some.injEq, AO.cells.injEq] at hob; obtain ⟨rfl, rfl, _⟩ := hob
        refine ⟨Nat.le_refl _, by omega, fun o2 ho2 => ?_⟩
        rw [G2] at ho2; simp only [Option.some.injEq] at ho2
        exact ⟨_, ho2.symm, Nat.le_refl _⟩
      · rw [G3 _ hne] at hob
        obtain ⟨a1, rfl⟩ := hall c x ca ta h hob hk
        have := hR.dom c x h
        refine ⟨by omega, by omega, fun o2 ho2 => ?_⟩
        rw [G2] at ho2; simp only [Option.some.injEq] at ho2
        exact ⟨_, ho2.symm, by simp; omega⟩
    · rw [G5 _ hgg] at hg
      have hne : c ≠ H.next := fun e => by
        subst e; rw [G2] at hob; simp only [Option.some.injEq, AO.cells.injEq] at hob; exact hgg hob.2.2.symm
      rcases hcase c x hc with ⟨rfl, rfl⟩ | ⟨_, h⟩
      · exact absurd rfl hne
      · rw [G3 _ hne] at hob
        obtain ⟨k1, k2, k3⟩ := hR.grp c x ca ta g' tip' kill' h hob hg hk
        refine ⟨k1, by omega, fun o2 ho2 => k3 o2 ?_⟩
        rwa [G3 _ (Nat.ne_of_lt k2)] at ho2
  · intro c x ca ta g' hc hob
    rw [G1]
    rcases hcase c x hc with ⟨rfl, rfl⟩ | ⟨hne, h⟩
    · rw [G2] at hob; simp only [Option.some.injEq, AO.cells.injEq] at hob; obtain ⟨_, _, rfl⟩ := hob
      have := hR.gbd b _ _ _ _ hb hget; omega
    · rw [G3 _ hne] at hob
      have := hR.gbd c x ca ta g' h hob; omega
  · intro c x hc
    rcases hcase c x hc with ⟨rfl, rfl⟩ | ⟨hne, h⟩
    · exact .inl (hR.baseS hb hget)
    · exact (hR.base c x h).imp_right fun h0 => by rw [G3 _ ‹_›]; exact h0
  · intro x hx
    rw [hoth x (fun e => by subst e; have := hR.baseS hb hget; omega)]; exact hR.gl x hx
  · rw [setRow_size]; exact hR.bsz
end
end Go.U
end

section
namespace Go.U
set_option autoImplicit false

section
variable {K : KK} {T : TT} {P : Program} {m : Ren} {H : AH} {w : World} {e : Operand → Option Value} {ρ : Operand → Value}

theorem CSt.push (hR : Rel K P m H w) {o' : Obj} {w1 : World} (hw : w1.heap = w.heap.push o') (k low : Nat) : CSt m w H.next low (m.bind H.next w.heap.size k) w1 where
  le := m.le_bind _ _ _ (hR.fresh (Nat.le_refl _))
  new b x hb hm := by
    by_cases h : b = H.next
    · omega
    · rw [Ren.bind_old _ _ _ _ h, hm] at hb; simp at hb
  size := by rw [hw]; simp
  frame x hx _ := by rw [hw, Array.getElem?_push_lt hx, Array.getElem?_eq_getElem hx]
  fresh b x hb hm hx := by
    by_cases h : b = H.next
    · subst h; rw [Ren.bind_same] at hb; simp at hb; omega
    · rw [Ren.bind_old _ _ _ _ h, hm] at hb; simp at hb

theorem UNK_eq : UNK = 2 * HALF := rfl
theorem HALF_pos : 0 < HALF := by simp [HALF]

theorem slu0 {b b' n cap : Nat} (hb : m.ρ b = some b') (hk : m.κ b = cap) (hn : n ≤ cap) : VR m (.slice (some ⟨b, 0, none⟩) n UNK) (.slice (some ⟨b', 0, none⟩) n cap) := by
  subst hk; exact VR.slu _ _ _ 0 _ hb (by omega) HALF_pos
/-- A row of its own group is laid. -/
theorem grow_new (hT : TOK T P) (hR : Rel K P m H w) {et : TypeId} {ei : TI} (hei : tget T et = some ei) {o : Oper} {newl : List Value} {arr : Array Value} {need cap : Nat}
    (hrun : (execOp ρ o).run P w = .ok (.value (.slice (some ⟨w.heap.size, 0, none⟩) need cap)) (w.drew.alloc (.cells arr et)))
    (hv : VRs m newl (arr.toList.take newl.length)) (hs : arr.size = cap * ei.size) (hl : newl.length ≤ arr.size) (hn : need ≤ cap) :
    Does K P m H w ρ o (.slice (some ⟨H.next, 0, none⟩) need UNK) { H.push (.cells newl et (some H.next)) with gs := H.gs.set (H.next + 1) H.next (H.next, 0) } := by
  obtain ⟨inf, d, hk⟩ := hT et ei hei
  have hco : P.cellsOf et = ei.size := by simp [Program.cellsOf, hk.info, hk.size]
  have hw : (w.drew.alloc (.cells arr et)).heap = w.heap.push (.cells arr et (0, 0)) := rfl
  refine ⟨m.bind H.next w.heap.size cap, _, _, ?_, .inl hrun, ?_, CSt.push hR hw cap _⟩
  · exact slu0 (Ren.bind_same _ _ _ _) (Ren.bind_κ _ _ _ _) hn
  · refine hR.pushRow (g := H.next) (kill := 0) rfl (get_push_same H _) (fun b hb => get_push_other H b _ hb) (Tr.get_set_self _ _ _) (fun g' hg => Tr.get_set_other _ _ _ _ _ hg.symm) (Nat.le_refl _) ?_ hw ⟨rfl, rfl⟩ (by rw [hco]; exact hs) hl hv
    intro c x ca ta hc hget _
    have := hR.gbd c x ca ta _ hc hget
    omega

theorem s_append (hT : TOK T P) (hR : Rel K P m H w) (he : OpdR m e ρ) (dst : Option Tmp) (args : Array Operand) (ats : Array TypeId) (ty : TypeId) (pos : String) (af : Array Edge) (gd : Option (Nat × Bool)) (v : Value) (H1 : AH)
    (h : effOp T e H (.call ⟨.builtin .append, args, ats⟩) = some (v, H1)) : Does K P m H w ρ ⟨dst, .call ⟨.builtin .append, args, ats⟩, ty, pos, af, gd⟩ v H1 := by
  simp only [effOp] at h
  split at h <;> try (simp at h; done)
  rename_i x y t u tl hargs hats
  split at h <;> try (simp at h; done)
  rename_i sa sn sc yv ti ui hx hy hti hui
  obtain ⟨inf, d, hk⟩ := hT t ti hti
  have hdok := hk.dok
  split at h <;> try (simp at h; done)
  rename_i et hd
  rw [hd] at hdok; simp only [DOK] at hdok; subst hdok
  split at h <;> try (simp at h; done)
  rename_i ei hei
  obtain ⟨inf1, d1, hk1⟩ := hT et ei hei
  obtain ⟨infu, du, hku⟩ := hT u ui hui
  have hdoku := hku.dok
  have ha0 : args = #[x, y] := by apply Array.ext'; simpa using hargs
  subst ha0
  have h0 : ats[0]? = some t := by
    have : ats.toList[0]? = some t := by rw [hats]; rfl
    simpa using this
  have h1 : ats[1]? = some u := by
    have : ats.toList[1]? = some u := by rw [hats]; rfl
    simpa using this
  split at h <;> try (simp at h; done)
  rename_i n new hnew
  -- what is appended, on the machine
  have happ : ∃ new' : Array Value, VRs m new new'.toList ∧ AppArg P w et ei.size ei.zero u (ρ y) n new' ∧ new.length = n * ei.size := by
    split at hnew
    · rename_i e2 hud
      simp only [Option.some.injEq, Prod.mk.injEq] at hnew; obtain ⟨rfl, rfl⟩ := hnew
      rw [hud] at hdoku; simp only [DOK] at hdoku; subst hdoku
      have hr := he y _ hy
      generalize hz : ρ y = z at hr
      cases hr with
      | sl0 => exact ⟨#[], .nil, .sl e2 none 0 hku.und rfl (fun w' _ => by simp [Builtin.firstCells]), by simp⟩
    · rename_i e2 b o n' c hud
      split at hnew <;> try (simp at hnew; done)
      rename_i cs st sg hc
      cases hb : Nat.ble (o + n' * ei.size) cs.length with
      | false => simp [hb] at hnew
      | true =>
        simp only [hb, cond_true, Option.some.injEq, Prod.mk.injEq] at hnew; obtain ⟨rfl, rfl⟩ := hnew
        have hb' : o + n' * ei.size ≤ cs.length := by simpa using hb
        rw [hud] at hdoku; simp only [DOK] at hdoku; subst hdoku
        have hsy : ∃ by_ cy, ρ y = .slice (some ⟨by_, o, none⟩) n' cy ∧ m.ρ b = some by_ := by
          have hr := he y _ hy
          generalize ρ y = z at hr
          cases hr with
          | sl _ _ _ _ bx hb => exact ⟨bx, _, rfl, hb⟩
          | slu _ _ _ _ bx hb => exact ⟨bx, _, rfl, hb⟩
        obtain ⟨by_, cy, hzy, hby⟩ := hsy
        obtain ⟨l, hll, hlv, hlr⟩ := hR.loads hby hc o (n' * ei.size) hb'
        refine ⟨l.toArray, by simpa using hlv, .sl e2 (some ⟨by_, o, none⟩) cy hku.und hzy (fun w' hw' => ?_), by simp; omega⟩
        rw [hzy]; simp only [Builtin.firstCells]; exact hlr w' hw'
    · rename_i k k' n' hud
      cases hb : Nat.blt n' 1048576 with
      | false => simp [hb] at hnew
      | true =>
        simp only [hb, cond_true, Option.some.injEq, Prod.mk.injEq] at hnew; obtain ⟨rfl, rfl⟩ := hnew
        rw [hud] at hdoku; simp only [DOK] at hdoku; subst hdoku
        have hzy := rel_int (he y _ hy)
        refine ⟨_, ?_, .zs k k' hku.und hzy (blt_t hb) rfl, by rw [rep_length, hk1.zsize]⟩
        split
        · rename_i h0
          have : rep n' (cellsL ei.zero) = [] := by
            apply List.length_eq_zero_iff.1
            rw [rep_length, hk1.zsize]; exact h0
          rw [this]; exact .nil
        · rw [zeroCells_list]; exact rep_flat m ei.zero hk1.zflat n'
    · simp at hnew
  obtain ⟨new', hnv, happ, hnl⟩ := happ
  have hnl' : new'.size = n * ei.size := by have := hnv.length; simp at this; omega
  have hexec : ∀ r w', (Builtin.append_ ats ty #[ρ x, ρ y]).run P w = .ok r w' → (execOp ρ ⟨dst, .call ⟨.builtin .append, #[x, y], ats⟩, ty, pos, af, gd⟩).run P w = .ok (.value r) w' := by
    intro r w' hr
    simp [execOp, resolve, invoke, builtin, hr]
  cases hn0 : Nat.beq n 0 with
  | true =>
    simp only [hn0, cond_true, Option.some.injEq, Prod.mk.injEq] at h; obtain ⟨rfl, rfl⟩ := h
    have hn0' : n = 0 := by simpa using hn0
    subst hn0'
    have hnew0 : new' = #[] := by
      apply Array.eq_empty_of_size_eq_zero; omega
    subst hnew0
    have hr := he x _ hx
    refine ⟨m, ρ x, w, hr, .inl (hexec _ _ ?_), hR, CSt.refl _ _ _ _⟩
    -- nothing is appended
    have key : ∀ (base : Option Addr) (c' : Nat), sn ≤ c' → (Builtin.append_ ats ty #[.slice base sn c', ρ y]).run P w = .ok (.slice base sn c') w := by
      intro base c' hle
      have hw0 : IntKind.i64.wrap 0 = 0 := rfl
      cases happ with
      | zs k k' hu hy hn hnew =>
        rw [hy]
        cases base with
        | none => simp [Builtin.append_, h0, h1, underlying, hk.und, hu, sizeOf, typeInfo, hk1.info, hk1.size, asInt, asIntOf, hw0, hle]
        | some a => simp [Builtin.append_, h0, h1, underlying, hk.und, hu, sizeOf, typeInfo, hk1.info, hk1.size, asInt, asIntOf, hw0, hle, storeCells]
      | sl e2 a c hu hy hr =>
        have hr' := hr w rfl
        rw [hy] at hr' ⊢
        cases base with
        | none => simp [Builtin.append_, h0, h1, underlying, hk.und, hu, sizeOf, typeInfo, hk1.info, hk1.size, Builtin.lenOf, hle, hr']
        | some a => simp [Builtin.append_, h0, h1, underlying, hk.und, hu, sizeOf, typeInfo, hk1.info, hk1.size, Builtin.lenOf, hle, hr', storeCells]
    generalize ρ x = z at hr ⊢
    cases hr with
    | sl0 => exact key none 0 (Nat.le_refl _)
    | sl b o n c b' h1 h2 h3 => exact key _ _ h2
    | slu b o n l b' h1 h2 h3 => exact key _ _ (by omega)
  | false =>
    have hn0' : 0 < n := by
      rcases Nat.eq_zero_or_pos n with h | h
      · subst h; simp at hn0
      · exact h
    simp only [hn0, cond_false] at h
    cases hc : (oneL new && Nat.blt (sn + n) 1048576 && Nat.blt 0 ei.size && Nat.blt 0 ei.bytes && Nat.blt ei.bytes 65536) with
    | false => simp [hc] at h
    | true =>
      simp only [hc, cond_true] at h
      simp only [Bool.and_eq_true] at hc
      obtain ⟨⟨⟨⟨hone, hc1⟩, hc2⟩, hc3⟩, hc4⟩ := hc
      have hc1 := blt_t hc1
      have hc2 := blt_t hc2
      have hc3 := blt_t hc3
      have hc4 := blt_t hc4
      have hr := he x _ hx
      split at h
      · -- onto nothing
        cases hz : (Nat.beq sn 0 && Nat.beq sc 0) with
        | false => simp [hz] at h
        | true =>
          simp only [hz, cond_true, Option.some.injEq, Prod.mk.injEq] at h; obtain ⟨rfl, rfl⟩ := h
          generalize hzx : ρ x = z at hr
          cases hr with
          | sl0 =>
            have hrun := run_app_grow (P := P) (w := w) (ty := ty) (base := none) (sLen := 0) (sCap := 0) (old := #[]) h0 h1 hk.und hk1 hc4 hc3 happ (by omega) (by omega) (fun w' _ => by simp [Builtin.firstCells])
            rw [Nat.zero_add] at hrun
            have hg := grownCap_ge w n 0 et
            refine grow_new hT hR hei (hexec _ _ (by rw [hzx]; exact hrun)) ?_ ?_ ?_ hg
            · have : ((#[] ++ new' ++ Builtin.zeroCells ei.zero.cells (grownCap w n 0 et - n)).toList.take new.length) = new'.toList := by
                simp only [Array.toList_append, List.nil_append]
                rw [List.take_append_of_le_length (by simp; omega), List.take_of_length_le (by simp; omega)]
              rw [this]; exact hnv
            · have hzl := rep_length (cellsL ei.zero) (grownCap w n 0 et - n)
              rw [← zeroCells_list, hk1.zsize] at hzl
              simp only [Array.length_toList] at hzl
              simp only [Array.size_append, hzl, hnl']
              have : n * ei.size + (grownCap w n 0 et - n) * ei.size = grownCap w n 0 et * ei.size := by rw [← Nat.add_mul]; congr 1; omega
              simpa using this
            · simp; omega
      · rename_i b o
        split at h <;> try (simp at h; done)
        rename_i cs bt g hcell
        obtain ⟨hget, hlive⟩ := cellsAt_get hcell
        cases h2 : (Nat.ble (o + sn * ei.size) cs.length && Nat.beq bt et) with
        | false => simp [h2] at h
        | true =>
          simp only [h2, cond_true] at h
          rw [Bool.and_eq_true] at h2
          have h2a : o + sn * ei.size ≤ cs.length := by simpa using h2.1
          have h2b : bt = et := by simpa using h2.2
          subst h2b
          cases h3 : Nat.blt sc HALF with
          | true =>
            simp only [h3, cond_true] at h
            have h3' := blt_t h3
            cases h4 : Nat.blt sc (sn + n) with
            | false => simp [h4] at h
            | true =>
              have h4' := blt_t h4
              simp only [h4, cond_true, Option.some.injEq, Prod.mk.injEq] at h; obtain ⟨rfl, rfl⟩ := h
              generalize hzx : ρ x = z at hr
              have hsl : ∃ b', z = .slice (some ⟨b', o, none⟩) sn sc ∧ m.ρ b = some b' := by
                generalize hsc : sc = sc' at hr
                cases hr with
                | sl _ _ _ _ b' hb _ _ => subst hsc; exact ⟨b', rfl, hb⟩
                | slu _ _ _ l b' hb _ hl => rw [UNK_eq] at hsc; omega
              obtain ⟨b', rfl, hb⟩ := hsl
              obtain ⟨l, hll, hlv, hlr⟩ := hR.loads hb hcell o (sn * ei.size) h2a
              have hrun := run_app_grow (P := P) (w := w) (ty := ty) (base := some ⟨b', o, none⟩) (sLen := sn) (sCap := sc) (old := l.toArray) h0 h1 hk.und hk1 hc4 hc3 happ h4' hc1 (fun w' hw' => by simp only [Builtin.firstCells]; exact hlr w' hw')
              have hg := grownCap_ge w (sn + n) sc bt
              refine grow_new hT hR hei (hexec _ _ (by rw [hzx]; exact hrun)) ?_ ?_ ?_ hg
              · have : ((l.toArray ++ new' ++ Builtin.zeroCells ei.zero.cells (grownCap w (sn + n) sc bt - (sn + n))).toList.take (((cs.drop o).take (sn * ei.size)) ++ new).length) = l ++ new'.toList := by
                  have hd : ((cs.drop o).take (sn * ei.size)).length = sn * ei.size := by have := hlv.length; omega
                  simp only [Array.toList_append, List.length_append, hd]
                  rw [List.take_append_of_le_length (by simp; omega), List.take_of_length_le (by simp; omega)]
                rw [this]; exact hlv.append hnv
              · have hzl := rep_length (cellsL ei.zero) (grownCap w (sn + n) sc bt - (sn + n))
                rw [← zeroCells_list, hk1.zsize] at hzl
                simp only [Array.length_toList] at hzl
                simp only [Array.size_append, hzl, hnl', List.size_toArray, hll]
                rw [← Nat.add_mul, ← Nat.add_mul]; congr 1; omega
              · have hd : ((cs.drop o).take (sn * ei.size)).length = sn * ei.size := by have := hlv.length; omega
                simp only [List.length_append, hd, Array.size_append, List.size_toArray, hll, hnl', hnl]; omega
          | false =>
            have h3' := blt_f h3
            simp only [h3, cond_false] at h
            split at h <;> try (simp at h; done)
            rename_i g
            obtain ⟨tip0, kill0, hg0, hk0⟩ := hlive g rfl
            have hco : P.cellsOf bt = ei.size := by simp [Program.cellsOf, hk1.info, hk1.size]
            -- the slice has its row's whole room
            have hrow : sc = UNK → o = 0 → ∃ b', ρ x = .slice (some ⟨b', 0, none⟩) sn (m.κ b) ∧ m.ρ b = some b' ∧ sn ≤ m.κ b := by
              intro hsc ho
              subst ho
              generalize ρ x = z at hr
              generalize hsc' : sc = sc' at hr
              cases hr with
              | sl _ _ _ _ b' hb _ hlt => subst hsc'; rw [hsc, UNK_eq] at hlt; omega
              | slu _ _ _ l b' hb hle hl =>
                have : l = 0 := by rw [hsc, UNK_eq] at hsc'; omega
                subst this
                exact ⟨b', by simp, hb, by omega⟩
            cases h4 : (Nat.beq o 0 && Nat.beq sc UNK && Nat.ble ((sn + n) * ei.size) cs.length) with
            | true =>
              simp only [h4, cond_true] at h
              simp only [Bool.and_eq_true] at h4
              have ho : o = 0 := by simpa using h4.1.1
              have hsc : sc = UNK := by simpa using h4.1.2
              have hfit : (sn + n) * ei.size ≤ cs.length := by simpa using h4.2
              obtain ⟨b', hzx, hb, hle⟩ := hrow hsc ho
              split at h <;> try (simp at h; done)
              rename_i H' hs
              simp only [Option.some.injEq, Prod.mk.injEq] at h; obtain ⟨rfl, rfl⟩ := h
              obtain ⟨w1, q1, q2, q3⟩ := hR.store hb hnv hs
              have hcap : sn + n ≤ m.κ b := by
                obtain ⟨o1, k0, k1⟩ := hR.obj b b' _ hb hget
                cases k1 with
                | row _ _ _ cs' a1 a2 _ =>
                  rw [hco] at a1
                  have : (sn + n) * ei.size ≤ m.κ b * ei.size := by omega
                  exact Nat.le_of_mul_le_mul_right this hc2
              have hrun := run_app_fit (P := P) (w := w) (ty := ty) (base := some ⟨b', 0, none⟩) (sLen := sn) (sCap := m.κ b) h0 h1 hk.und hk1 hc4 happ hcap (w1 := w1) (by simp only [add_none, Nat.zero_add]; exact q1)
              refine ⟨m, _, w1, ?_, .inl (hexec _ _ (by rw [hzx]; exact hrun)), q2, q3⟩
              rw [hsc]
              exact slu0 hb rfl hcap
            | false =>
              simp only [h4, cond_false] at h
              split at h <;> try (simp at h; done)
              rename_i tip kill hg
              cases h5 : (Nat.beq tip b && Nat.beq o 0 && Nat.beq (sn * ei.size) cs.length && Nat.beq sc UNK) with
              | false => simp [h5] at h
              | true =>
                simp only [h5, cond_true, Option.some.injEq, Prod.mk.injEq] at h
                obtain ⟨rfl, hH1⟩ := h
                simp only [Bool.and_eq_true] at h5
                have ht : tip = b := by simpa using h5.1.1.1
                have ho : o = 0 := by simpa using h5.1.1.2
                have hlen : sn * ei.size = cs.length := by simpa using h5.1.2
                have hsc : sc = UNK := by simpa using h5.2
                subst ht
                subst ho
                rw [hg] at hg0; simp only [Option.some.injEq, Prod.mk.injEq] at hg0; obtain ⟨rfl, rfl⟩ := hg0
                obtain ⟨b', hzx, hb, hle⟩ := hrow hsc rfl
                have hold : (cs.drop 0).take (sn * ei.size) = cs := by simp [hlen]
                rw [hold] at hH1
                have G1 : H1.next = H.next + 1 := by subst hH1; rfl
                have G2 : H1.get H.next = some (.cells (cs ++ new) bt (some g)) := by subst hH1; exact get_push_same H _
                have G3 : ∀ c, c ≠ H.next → H1.get c = H.get c := fun c hc => by subst hH1; exact get_push_other H c _ hc
                have G4 : H1.gs.get g = some (H.next, kill) := by subst hH1; exact Tr.get_set_self _ _ _
                have G5 : ∀ g', g' ≠ g → H1.gs.get g' = H.gs.get g' := fun g' hn => by subst hH1; exact Tr.get_set_other _ _ _ _ _ hn.symm
                have G6 : H1.low ≤ tip := by subst hH1; rw [low_lower, low_lower]; show min g (min tip H.low) ≤ tip; omega
                have hgl : g < H.next := hR.gbd tip b' cs bt g hb hget
                obtain ⟨cur, c1, c2, c3⟩ := hR.cellsAt hb hcell
                by_cases hfit : sn + n ≤ m.κ tip
                · -- where it lies
                  obtain ⟨o1, k0, k1⟩ := hR.obj tip b' _ hb hget
                  have hsz : cur.size = m.κ tip * ei.size := by
                    rw [c1] at k0; simp only [Option.some.injEq] at k0; subst k0
                    cases k1 with
                    | row _ _ _ _ a1 a2 _ => rw [hco] at a1; exact a1
                  have hroom : cs.length + new.length ≤ cur.size := by
                    rw [hsz, ← hlen, hnl, ← Nat.add_mul]; exact Nat.mul_le_mul_right _ hfit
                  have hstore := run_storeCells_at P b' cs.length bt new'.toList 0 cur w c1 (by have := hnv.length; simp only [Nat.add_zero]; omega) (oneL_rel hnv hone)
                  simp only [Nat.add_zero] at hstore
                  rw [← over_eq new'.toList cur.toList cs.length (by have := hnv.length; simp at this ⊢; omega)] at hstore
                  have hrun := run_app_fit (P := P) (w := w) (ty := ty) (base := some ⟨b', 0, none⟩) (sLen := sn) (sCap := m.κ tip) h0 h1 hk.und hk1 hc4 happ hfit (w1 := _) (by simp only [add_none, Nat.zero_add, hlen]; exact hstore)
                  have hle' := m.le_bind H.next b' (m.κ tip) (hR.fresh (Nat.le_refl _))
                  refine ⟨m.bind H.next b' (m.κ tip), _, _, ?_, .inl (hexec _ _ (by rw [hzx]; exact hrun)), hR.growIn hb hget hg hk0 c1 G1 G2 G3 G4 G5 hnv hroom, ?_⟩
                  · exact slu0 (Ren.bind_same _ _ _ _) (Ren.bind_κ _ _ _ _) hfit
                  · refine ⟨hle', ?_, by simp, ?_, ?_⟩
                    · intro c x hc hm
                      by_cases hcn : c = H.next
                      · omega
                      · rw [Ren.bind_old _ _ _ _ hcn, hm] at hc; simp at hc
                    · intro x _ hx
                      exact setRow_other w b' x _ (fun e => by subst e; have := hx tip hb; omega)
                    · intro c x hc hm _
                      by_cases hcn : c = H.next
                      · subst hcn
                        rw [Ren.bind_same] at hc; simp only [Option.some.injEq] at hc; subst hc
                        exact ⟨tip, hb, G6⟩
                      · rw [Ren.bind_old _ _ _ _ hcn, hm] at hc; simp at hc
                · -- a new row
                  obtain ⟨l, hll, hlv, hlr⟩ := hR.loads hb hcell 0 (sn * ei.size) h2a
                  rw [hold] at hlv
                  have hrun := run_app_grow (P := P) (w := w) (ty := ty) (base := some ⟨b', 0, none⟩) (sLen := sn) (sCap := m.κ tip) (old := l.toArray) h0 h1 hk.und hk1 hc4 hc3 happ (by omega) hc1 (fun w' hw' => by simp only [Builtin.firstCells]; exact hlr w' hw')
                  have hgc := grownCap_ge w (sn + n) (m.κ tip) bt
                  have hw : (w.drew.alloc (.cells (l.toArray ++ new' ++ Builtin.zeroCells ei.zero.cells (grownCap w (sn + n) (m.κ tip) bt - (sn + n))) bt)).heap = w.heap.push (.cells (l.toArray ++ new' ++ Builtin.zeroCells ei.zero.cells (grownCap w (sn + n) (m.κ tip) bt - (sn + n))) bt (0, 0)) := rfl
                  refine ⟨m.bind H.next w.heap.size (grownCap w (sn + n) (m.κ tip) bt), _, _, ?_, .inl (hexec _ _ (by rw [hzx]; exact hrun)), ?_, CSt.push hR hw _ _⟩
                  · exact slu0 (Ren.bind_same _ _ _ _) (Ren.bind_κ _ _ _ _) hgc
                  · refine hR.pushRow (g := g) (kill := kill) G1 G2 G3 G4 G5 (by omega) ?_ hw ⟨rfl, rfl⟩ ?_ ?_ ?_
                    · intro c x ca ta q1 q2 q3
                      obtain ⟨_, _, q4⟩ := hR.grp c x ca ta g tip kill q1 q2 hg q3
                      obtain ⟨ct, q5, q6⟩ := q4 _ hget
                      simp only [AO.cells.injEq] at q5
                      obtain ⟨rfl, rfl, _⟩ := q5
                      exact ⟨⟨by simp; omega, rfl⟩, tip, hg⟩
                    · have hzl := rep_length (cellsL ei.zero) (grownCap w (sn + n) (m.κ tip) bt - (sn + n))
                      rw [← zeroCells_list, hk1.zsize] at hzl
                      simp only [Array.length_toList] at hzl
                      simp only [Array.size_append, hzl, hnl', List.size_toArray, hll, hco]
                      rw [← Nat.add_mul, ← Nat.add_mul]; congr 1; omega
                    · simp only [List.length_append, Array.size_append, List.size_toArray, hll, hnl', hnl, ← hlen]; omega
                    · have : ((l.toArray ++ new' ++ Builtin.zeroCells ei.zero.cells (grownCap w (sn + n) (m.κ tip) bt - (sn + n))).toList.take (cs ++ new).length) = l ++ new'.toList := by
                        simp only [Array.toList_append, List.length_append]
                        rw [List.take_append_of_le_length (by simp; omega), List.take_of_length_le (by simp; omega)]
                      rw [this]; exact hlv.append hnv
      · simp at h
end
end Go.U
end

section
namespace Go.U
set_option autoImplicit false

section
variable {K : KK} {T : TT} {P : Program} {m : Ren} {H : AH} {w : World} {e : Operand → Option Value} {ρ : Operand → Value}

theorem s_eff (hT : TOK T P) (hR : Rel K P m H w) (he : OpdR m e ρ) (o : Oper) (v : Value) (H1 : AH) (h : effOp T e H o.op = some (v, H1)) : Does K P m H w ρ o v H1 := by
  obtain ⟨dst, op, ty, pos, af, g⟩ := o
  simp only at h
  cases op
  case store t x y => exact s_store hT hR he _ _ _ _ _ _ _ _ _ _ h
  case mapUpdate t mm k x => exact s_mapUpdate hT hR he false _ _ _ _ _ _ _ _ _ _ _ h
  case insert t mm k x => exact s_mapUpdate hT hR he true _ _ _ _ _ _ _ _ _ _ _ h
  case next x b => exact s_next hR he _ _ _ _ _ _ _ _ _ h
  case call c =>
    obtain ⟨callee, args, ats⟩ := c
    cases callee with
    | value f => simp [effOp] at h
    | invoke r n => simp [effOp] at h
    | builtin b =>
      cases b
      case copy => exact s_copy hT hR he _ _ _ _ _ _ _ _ _ h
      case append => exact s_append hT hR he _ _ _ _ _ _ _ _ _ h
      all_goals simp [effOp] at h
  all_goals simp [effOp] at h

theorem s_read (hT : TOK T P) (hR : Rel K P m H w) (he : OpdR m e ρ) (o : Oper) (v : Value) (h : readOp T e H o.op = some v) : Gives P m ρ o v w := by
  obtain ⟨dst, op, ty, pos, af, g⟩ := o
  simp only at h
  cases op
  case load t x => exact s_load hT hR he _ _ _ _ _ _ _ _ h
  case lookup t x k ok => exact s_lookup hT hR he _ _ _ _ _ _ _ _ _ _ h
  all_goals simp [readOp] at h

/-- An operation that is no call. -/
def opN (T : TT) (e : Operand → Option Value) (H : AH) (op : Op) : Option (Value × AH × Bool) := match pureOp T e op with
  | some v => some (v, H, true)
  | none => match readOp T e H op with
    | some v => some (v, H, true)
    | none => match allocOp T e op with
      | some (ob, nm) => some (nm H.next, H.push ob, true)
      | none => match effOp T e H op with
        | some (v, H1) => some (v, H1, false)
        | none => none
theorem s_opN (hT : TOK T P) (hR : Rel K P m H w) (he : OpdR m e ρ) (o : Oper) (v : Value) (H1 : AH) (q : Bool) (h : opN T e H o.op = some (v, H1, q)) :
    ∃ m1 v' w1, VR m1 v v' ∧ ((execOp ρ o).run P w = .ok (.value v') w1 ∨ ((execOp ρ o).run P w = .ok .skip w1 ∧ v' = undef)) ∧ Rel K P m1 H1 w1 ∧ CSt m w H.next H1.low m1 w1 ∧ (q = true → CSt m w H.next H.next m1 w1) := by
  simp only [opN] at h
  split at h
  · rename_i hp
    simp only [Option.some.injEq, Prod.mk.injEq] at h; obtain ⟨rfl, rfl, _⟩ := h
    obtain ⟨v', h1, h2⟩ := pure_sound hT he o _ hp w
    exact ⟨m, v', w, h1, .inl h2, hR, CSt.refl _ _ _ _, fun _ => CSt.refl _ _ _ _⟩
  · split at h
    · rename_i hp
      simp only [Option.some.injEq, Prod.mk.injEq] at h; obtain ⟨rfl, rfl, _⟩ := h
      obtain ⟨v', h1, h2⟩ := s_read hT hR he o _ hp
      exact ⟨m, v', w, h1, .inl h2, hR, CSt.refl _ _ _ _, fun _ => CSt.refl _ _ _ _⟩
    · split at h
      · rename_i hp
        simp only [Option.some.injEq, Prod.mk.injEq] at h; obtain ⟨rfl, rfl, _⟩ := h
        obtain ⟨m1, v', w1, h1, h2, h3, h4⟩ := s_alloc hT hR he o _ _ hp
        exact ⟨m1, v', w1, h1, .inl h2, h3, h4 _, fun _ => h4 _⟩
      · split at h
        · rename_i hp
          simp only [Option.some.injEq, Prod.mk.injEq] at h; obtain ⟨rfl, rfl, rfl⟩ := h
          obtain ⟨m1, v', w1, h1, h2, h3, h4⟩ := s_eff hT hR he o _ _ hp
          exact ⟨m1, v', w1, h1, h2, h3, h4, by simp⟩
        · simp at h
end
end Go.U
end

section
namespace Go.U
set_option autoImplicit false

/-- Kinds: 0 looks at no memory, 1 a load, 2 lays a block, 3 changes memory, 4 a call that floats, 5 a call that does not, 6 a look into a map, 7 none of these. -/
def cls (k i : Nat) : Op → Nat
  | .load .. => 1
  | .lookup .. => 6
  | .alloc _ | .box .. | .buildSlice .. | .makeSlice .. | .makeMap .. | .range .. => 2
  | .store .. | .mapUpdate .. | .insert .. | .next .. => 3
  | .call { callee := .builtin .append, .. } | .call { callee := .builtin .copy, .. } => 3
  | .call { callee := .builtin .recover, .. } => 7
  | .call { callee := .builtin _, .. } => 0
  | .call { callee := .value _, .. } | .call { callee := .invoke _ _, .. } => bif k.testBit i then 5 else 4
  | .defer _ | .panic _ | .go _ | .select _ _ | .send _ _ | .recv .. => 7
  | _ => 0
/-- Which two may be run in either order (the text's first, its second; is the load known to go with the effect?). -/
def pairOK (a b : Nat) (fa fb : Bool) : Bool := match a, b with
  | 0, _ => true
  | _, 0 => true
  | 1, 3 => fa
  | 3, 1 => fb
  | 3, 2 => true
  | 3, _ => false
  | _, 3 => false
  | 5, _ => false
  | _, 5 => false
  | _, _ => true
def bef1 (acc : List Nat) : List Edge → Nat → Nat
  | [], s => s
  | e :: l, s => bef1 acc l (bif Region.binds .any e then s ||| (2 ^ e.on ||| acc.getD e.on 0) else s)
def befs : List Oper → List Nat → List Nat
  | [], acc => acc
  | o :: l, acc => befs l (acc ++ [bef1 acc o.after.toList 0])
def tmpOf : Operand → Option Tmp
  | .tmp t => some t
  | _ => none
def namesOf (ops : List Oper) (o : Oper) : List Tmp :=
  o.op.operands.toList.filterMap tmpOf ++ (match o.guard with | some (g, _) => (slotOf ops g).toList | none => [])
def apart1 (d : Option Tmp) (l : List Tmp) : Bool := match d with
  | none => true
  | some t => !memN t l
def distinct (a b : Option Tmp) : Bool := match a, b with
  | some s, some t => !Nat.beq s t
  | _, _ => true
structure OpI where
  o : Oper
  i : Nat
  c : Nat
  nm : List Tmp
  B : Nat
  u : Nat
def pairI (a b : OpI) : Bool := distinct a.o.dst b.o.dst && (b.B.testBit a.i || (pairOK a.c b.c (a.u.testBit b.i) (b.u.testBit a.i) && apart1 a.o.dst b.nm && apart1 b.o.dst a.nm))
def pairsI : List OpI → Bool
  | [] => true
  | a :: l => l.all (pairI a) && pairsI l
def oneI (a : OpI) : Bool := !Nat.beq a.c 7 && a.o.after.toList.all fun e => !Region.binds .any e || Nat.blt e.on a.i
def infos (ops : List Oper) (k : Nat) (us : List Nat) (B : List Nat) : List Oper → Nat → List OpI
  | [], _ => []
  | o :: l, i => ⟨o, i, cls k i o.op, namesOf ops o, B.getD i 0, us.getD i 0⟩ :: infos ops k us B l (i + 1)
def regionOK (ops : List Oper) (k : Nat) (us : List Nat) : Bool :=
  let is := infos ops k us (befs ops []) ops 0
  is.all oneI && pairsI is
def codeOK (E : Env) (f : FuncId) : Code → Bool
  | .region id ops draw => bif draw then (match maskOf E f id with
    | some (k, us) => regionOK ops.toList k us
    | none => true) else true
  | .seq a b => codeOK E f a && codeOK E f b
  | .cond _ a b => codeOK E f a && codeOK E f b
  | .block _ a => codeOK E f a
  | .loop a => codeOK E f a
  | .scope a => codeOK E f a
  | .rangeFunc _ _ a b => codeOK E f a && codeOK E f b
  | _ => true
end Go.U
end

section
namespace Go.U
set_option autoImplicit false

/-! ### related ends, deferred calls, stacks -/
def EndR (m : Ren) : AEnd → Ending → Prop
  | .ret v, .returned v' => VR m v v'
  | .pan v, .panicked ch => ∃ v', VR m v v' ∧ ch = [{ v := v', recovered := false }]
  | _, _ => False
theorem EndR.mono {m m' : Ren} (h : m.Le m') {e : AEnd} {en : Ending} (hr : EndR m e en) : EndR m' e en := by
  cases e <;> cases en <;> simp only [EndR] at hr ⊢ <;> try exact hr
  · exact hr.mono h
  · obtain ⟨v', h1, h2⟩ := hr; exact ⟨v', h1.mono h, h2⟩
inductive DfRs (m : Ren) : List Df → List Deferred → Prop
  | nil : DfRs m [] []
  | fn (f : FuncId) (args : List Value) (a cap : Array Value) (l : List Df) (l' : List Deferred) : VRs m args (a ++ cap).toList → DfRs m l l' → DfRs m (.fn f args :: l) ({ target := .fn (.func f) cap, args := a } :: l')
  | mark (b b' : Nat) (l : List Df) (l' : List Deferred) : m.ρ b = some b' → DfRs m l l' → DfRs m (.mark b :: l) ({ target := .collected b', args := #[] } :: l')
theorem DfRs.mono {m m' : Ren} (h : m.Le m') : ∀ {l : List Df} {l' : List Deferred}, DfRs m l l' → DfRs m' l l'
  | _, _, .nil => .nil
  | _, _, .fn f args a cap l l' h1 h2 => .fn f args a cap l l' (h1.mono h) (DfRs.mono h h2)
  | _, _, .mark b b' l l' h1 h2 => .mark b b' l l' (h.ρ _ _ h1) (DfRs.mono h h2)
/-- How the frame below stands. -/
def BMu (m : Ren) : BM → FrameMode → Prop
  | .no, _ => False
  | .ret, u => u = .returning
  | .pan v r, u => ∃ v', VR m v v' ∧ u = .panicking [{ v := v', recovered := r }]
theorem BMu.mono {m m' : Ren} (h : m.Le m') {bm : BM} {u : FrameMode} (hb : BMu m bm u) : BMu m' bm u := by
  cases bm with
  | no => exact hb
  | ret => exact hb
  | pan v r => obtain ⟨v', h1, h2⟩ := hb; exact ⟨v', h1.mono h, h2⟩
inductive BMR (m : Ren) : BM → CallKind → List Frame → Prop
  | no (cs : List Frame) : BMR m .no .normal cs
  | d (bm : BM) (c : Frame) (rest : List Frame) : BMu m bm c.mode → BMR m bm .deferred (c :: rest)
theorem BMR.mono {m m' : Ren} (h : m.Le m') {bm : BM} {k : CallKind} {cs : List Frame} (hb : BMR m bm k cs) : BMR m' bm k cs := by
  cases hb with
  | no => exact .no _
  | d c rest bm h1 => exact .d _ _ _ (h1.mono h)
inductive Moved : CallKind → List Frame → List Frame → Prop
  | n (cs : List Frame) : Moved .normal cs cs
  | d (c : Frame) (rest : List Frame) (u : FrameMode) : Moved .deferred (c :: rest) ({ c with mode := u } :: rest)
theorem Moved.refl {m : Ren} {bm : BM} {k : CallKind} {cs : List Frame} (hb : BMR m bm k cs) : Moved k cs cs := by
  cases hb with
  | no => exact .n _
  | d => exact .d _ _ _
theorem Moved.trans {k : CallKind} {a b c : List Frame} (h : Moved k a b) (h' : Moved k b c) : Moved k a c := by
  cases h with
  | n => exact h'
  | d x rest u => cases h' with
    | d _ _ u' => exact .d x rest u'
def RoR (m : Ren) : Option Nat → Option Nat → Prop
  | none, none => True
  | some l, some l' => m.ρ l = some l'
  | _, _ => False
theorem RoR.mono {m m' : Ren} (h : m.Le m') {a b : Option Nat} (hr : RoR m a b) : RoR m' a b := by
  cases a <;> cases b <;> simp only [RoR] at hr ⊢ <;> first | exact hr | exact h.ρ _ _ hr

/-! ### calls -/
def CallF (P : Program) (f : FuncId) (args : Array Value) (w : World) (R : Ending → World → Prop) : Prop :=
  ((callFunc f args).run P w = .ok (.enter f args) w ∧ Calls P f args w R) ∨ ∃ v w1, (callFunc f args).run P w = .ok (.value v) w1 ∧ R (.returned v) w1
/-- What a call leaves. -/
def CallR (K : KK) (P : Program) (m : Ren) (H : AH) (w : World) (H1 : AH) (e : AEnd) : Ending → World → Prop :=
  fun en w1 => ∃ m1, Rel K P m1 H1 w1 ∧ CSt m w H.next H1.low m1 w1 ∧ EndR m1 e en
/-- The same; q: nothing that lay was changed. -/
def CallQ (K : KK) (P : Program) (m : Ren) (H : AH) (w : World) (H1 : AH) (e : AEnd) (q : Bool) : Ending → World → Prop :=
  fun en w1 => ∃ m1, Rel K P m1 H1 w1 ∧ CSt m w H.next H1.low m1 w1 ∧ EndR m1 e en ∧ (q = true → CSt m w H.next H.next m1 w1)
theorem CallF.mono {P : Program} {f : FuncId} {args : Array Value} {w : World} {R R' : Ending → World → Prop} (h : CallF P f args w R) (hr : ∀ e w', R e w' → R' e w') : CallF P f args w R' := by
  rcases h with ⟨h1, h2⟩ | ⟨v, w1, h1, h2⟩
  · exact .inl ⟨h1, Calls.mono h2 hr⟩
  · exact .inr ⟨v, w1, h1, hr _ _ h2⟩

section
variable {K : KK} {P : Program}

/-- A temporary that is known stands for its value. -/
def TopR (m : Ren) (tm : List Value) (l : Array Value) : Prop := ∀ t, (∃ r, tm.getD t undef = .chan r) ∨ VR m (tm.getD t undef) (l.getD t undef)
theorem VRs.top {m : Ren} {tm : List Value} {l : Array Value} (h : VRs m tm l.toList) : TopR m tm l := fun t => .inr (by
  have := h.getD t (VR.undef m)
  simpa [Array.getD_eq_getD_getElem?, List.getD_eq_getElem?_getD] using this)
/-- Where code leaves its frame. -/
def Ends (P : Program) (b : Frame) (k : List Item) (x : X) (m : Ren) (s : St) (a : Act) (cs : List Frame) (w : World) (M : Machine) : Prop := match x with
  | .nrm => VRs m s.tm a.tmps.toList ∧ Steps P M (lone (b.atR a k) cs w)
  | .ret => VRs m s.tm a.tmps.toList ∧ ∃ k', Steps P M (lone (b.atR a (.code .ret :: k')) cs w)
  | .exit id => VRs m s.tm a.tmps.toList ∧ ∃ k', exitTo id k' = exitTo id k ∧ Steps P M (lone (b.atR a (.code (.exit id) :: k')) cs w)
  | .pan v => TopR m s.tm a.tmps ∧ ∃ todo v', VR m v v' ∧ Steps P M (lone { b.atR a todo with mode := .panicking [{ v := v', recovered := false }] } cs w)
/-- Code is run as the evaluator says. -/
def CodeS (K : KK) (P : Program) (c : Ctx) (x : Code) (s : St) (y : X) (s1 : St) : Prop :=
  ∀ (m : Ren) (a : Act) (w : World) (b : Frame) (k : List Item) (cs : List Frame), b.fn = c.fn → RoR m c.round b.roundOf → Rel K P m s.H w → VRs m s.tm a.tmps.toList → DfRs m s.df a.defers → BMR m s.bm b.kind cs →
    ∃ m1 a1 w1 cs1, CSt m w s.H.next s1.H.low m1 w1 ∧ Rel K P m1 s1.H w1 ∧ DfRs m1 s1.df a1.defers ∧ BMR m1 s1.bm b.kind cs1 ∧ Moved b.kind cs cs1 ∧ Ends P b k y m1 s1 a1 cs1 w1 (lone (b.atR a (.code x :: k)) cs w)
structure RecS (K : KK) (P : Program) (r : Rec) : Prop where
  call : ∀ f args H e H1, r.call f args H = some (e, H1) → ∀ m w args', Rel K P m H w → VRs m args args'.toList → CallF P f args' w (CallR K P m H w H1 e)
  callD : ∀ f args bm H bm1 H1, r.callD f args bm H = some (bm1, H1) → ∀ m w args' u, Rel K P m H w → VRs m args args'.toList → BMu m bm u →
    (callFunc f args').run P w = .ok (.enter f args') w ∧ CallsD P f args' u w fun en u' w1 => ∃ m1 v', en = .returned v' ∧ Rel K P m1 H1 w1 ∧ CSt m w H.next H1.low m1 w1 ∧ BMu m1 bm1 u'
  code : ∀ c x s y s1, r.code c x s = some (y, s1) → K.ck c.fn x → CodeS K P c x s y s1
def EnvS (K : KK) (P : Program) (E : Env) : Prop :=
  ∀ f args H v H1, E.S f args H = some (some (v, H1)) → ∀ m w args', Rel K P m H w → VRs m args args'.toList → CallF P f args' w (CallQ K P m H w H1 (.ret v) true)
/-- Methods of interface values are found as the table says. -/
def EnvI (P : Program) (E : Env) : Prop :=
  ∀ t n f off rt, findM t n E.I = some (f, off, rt) → ∀ m v v' rv w, VR m v v' → part1 E.T rt (cellsL v) off = some rv →
    ∃ rv', VR m rv rv' ∧ ∀ args, (callMethod (.iface t v') n args).run P w = (callFunc f (#[rv'] ++ args)).run P w

/-! ### a call through the evaluator -/
theorem rel_flat_main (m : Ren) : ∀ n : Nat, (∀ v v' : Value, SizeOf.sizeOf v ≤ n → flatV v = true → VR m v v' → v' = v) ∧ (∀ l l' : List Value, SizeOf.sizeOf l ≤ n → flatL l = true → VRs m l l' → l' = l) := by
  intro n
  induction n with
  | zero => exact ⟨fun v v' h => by cases v <;> simp at h, fun l l' h => by cases l <;> simp at h⟩
  | succ n ih =>
    refine ⟨fun v v' hs h hr => ?_, fun l l' hs h hr => ?_⟩
    · cases hr with
      | bool b => rfl
      | int k x => rfl
      | str s => rfl
      | ptr0 => rfl
      | ptr b o b' hb => simp [flatV] at h
      | sl0 => rfl
      | sl b o n c b' h1 h2 h3 => simp [flatV] at h
      | slu b o n l b' h1 h2 h3 => simp [flatV] at h
      | map0 => rfl
      | map b b' hb => simp [flatV] at h
      | func fn f f' c c' h1 h2 h3 => simp [flatV] at h
      | yld l l' hl => simp [flatV] at h
      | nilFunc => rfl
      | iface t v v' hv => rw [ih.1 v v' (by simp at hs; omega) (by simpa [flatV] using h) hv]
      | nilIface => rfl
      | agg cs cs' hc => rw [ih.2 cs cs' (by simp at hs; omega) (by simpa [flatV] using h) hc]
      | tuple cs cs' hc => rw [ih.2 cs cs' (by simp at hs; omega) (by simpa [flatV] using h) hc]
    · cases hr with
      | nil => rfl
      | cons v v' l l' hv hl =>
        simp only [flatL, Bool.and_eq_true] at h
        simp at hs
        rw [ih.1 v v' (by omega) h.1 hv, ih.2 l l' (by omega) h.2 hl]
theorem rel_flat {m : Ren} {v v' : Value} (h : flatV v = true) (hr : VR m v v') : v' = v := (rel_flat_main m _).1 v v' (Nat.le_refl _) h hr

theorem Rel.relow {m : Ren} {H : AH} {w : World} (h : Rel K P m H w) (n : Nat) : Rel K P m { H with low := n } w := ⟨h.dom, h.obj, h.inj, h.bnd, h.grp, h.gbd, h.base, h.gl, h.bsz, h.ob⟩
theorem Rel.unlow {m : Ren} {H : AH} {w : World} {n : Nat} (h : Rel K P m { H with low := n } w) : Rel K P m H w := ⟨h.dom, h.obj, h.inj, h.bnd, h.grp, h.gbd, h.base, h.gl, h.bsz, h.ob⟩

variable {E : Env} {r : Rec} (hS : EnvS K P E) (hr : RecS K P r)
include hS hr
theorem callIn_s {f : FuncId} {args : List Value} {H H1 : AH} {e : AEnd} {q : Bool} (h : callIn E r f args H = some (e, H1, q)) {m : Ren} {w : World} {args' : Array Value} (hR : Rel K P m H w) (ha : VRs m args args'.toList) :
    CallF P f args' w (CallQ K P m H w H1 e q) := by
  simp only [callIn] at h
  split at h
  · rename_i v H' hs
    simp only [Option.some.injEq, Prod.mk.injEq] at h; obtain ⟨rfl, rfl, rfl⟩ := h
    exact hS _ _ _ _ _ hs m w args' hR ha
  · simp at h
  · split at h
    · rename_i v H' hc
      have hcall := hr.call _ _ _ _ _ hc m w args' (hR.relow H.next) ha
      cases hl : Nat.ble H.next H'.low with
      | true =>
        have hl' : H.next ≤ H'.low := by simpa using hl
        simp only [hl, cond_true] at h
        cases hf : flatV v with
        | true =>
          simp only [hf, cond_true, Option.some.injEq, Prod.mk.injEq] at h; obtain ⟨rfl, rfl, _⟩ := h
          refine hcall.mono fun en w1 hq => ?_
          obtain ⟨m1, h1, h2, h3⟩ := hq
          have hfr : ∀ x, x < w.heap.size → w1.heap[x]? = w.heap[x]? := fun x hx => h2.frame x hx fun b hb => Nat.lt_of_lt_of_le (hR.dom b x hb) hl'
          refine ⟨m, hR.world h2.size hfr ⟨h1.ob.1.trans hR.ob.1.symm, h1.ob.2.trans hR.ob.2.symm⟩, ⟨Ren.Le.refl m, fun b x h1 h2 => by rw [h2] at h1; simp at h1, h2.size, fun x hx _ => hfr x hx, fun b x h1 h2 => by rw [h2] at h1; simp at h1⟩, ?_,
            fun _ => ⟨Ren.Le.refl m, fun b x h1 h2 => by rw [h2] at h1; simp at h1, h2.size, fun x hx _ => hfr x hx, fun b x h1 h2 => by rw [h2] at h1; simp at h1⟩⟩
          cases en with
          | returned v' =>
            simp only [EndR] at h3 ⊢
            rw [rel_flat hf h3]; exact VR.flat m v hf
          | panicked ch => exact h3.elim
          | outgrown => exact h3.elim
        | false =>
          simp only [hf, cond_false, Option.some.injEq, Prod.mk.injEq] at h; obtain ⟨rfl, rfl, _⟩ := h
          refine hcall.mono fun en w1 hq => ?_
          obtain ⟨m1, h1, h2, h3⟩ := hq
          have hall : ∀ low, CSt m w H.next low m1 w1 := fun low => ⟨h2.le, h2.new, h2.size, fun x hx _ => h2.frame x hx fun b hb => Nat.lt_of_lt_of_le (hR.dom b x hb) hl', fun b x k1 k2 k3 => by
            obtain ⟨b0, k4, k5⟩ := h2.fresh b x k1 k2 k3
            have := hR.dom b0 x k4
            omega⟩
          exact ⟨m1, h1.relow _, hall _, h3, fun _ => hall _⟩
      | false =>
        simp only [hl, cond_false, Option.some.injEq, Prod.mk.injEq] at h; obtain ⟨rfl, rfl, rfl⟩ := h
        refine hcall.mono fun en w1 hq => ?_
        obtain ⟨m1, h1, h2, h3⟩ := hq
        refine ⟨m1, h1.relow _, h2.low_le ?_, h3, by simp⟩
        show (bif Nat.blt H'.low H.low then H'.low else H.low) ≤ H'.low
        cases hx : Nat.blt H'.low H.low with
        | true => simp
        | false => have := blt_f hx; simpa using this
    · rename_i v H' hc
      have hcall := hr.call _ _ _ _ _ hc m w args' (hR.relow H.next) ha
      simp only [Option.some.injEq, Prod.mk.injEq] at h; obtain ⟨rfl, rfl, rfl⟩ := h
      refine hcall.mono fun en w1 hq => ?_
      obtain ⟨m1, h1, h2, h3⟩ := hq
      refine ⟨m1, h1.relow _, h2.low_le ?_, h3, by simp⟩
      show (bif Nat.blt H'.low H.low then H'.low else H.low) ≤ H'.low
      cases hx : Nat.blt H'.low H.low with
      | true => simp
      | false => have := blt_f hx; simpa using this
    · simp at h
end
end Go.U
end

section
namespace Go.U
set_option autoImplicit false

def RoundF (P : Program) (l : Nat) (f : FuncId) (tmps : Array Value) (asg body : Code) (w : World) (R : Ending → World → Prop) : Prop :=
  ∀ (c : Frame) (cs : List Frame), ∃ en w1, R en w1 ∧ (match en with
    | .returned v => Steps P (lone (Frame.round l f tmps asg body .normal) (c :: cs) w) (lone (c.finish v) cs w1)
    | .panicked ch => Steps P (lone (Frame.round l f tmps asg body .normal) (c :: cs) w) (lone (c.raise ch) cs w1)
    | .outgrown => False)

theorem fold_rel {m : Ren} : ∀ (ps : List Tmp) (args args' tm tm' : List Value), VRs m args args' → VRs m tm tm' →
    VRs m ((ps.zip args).foldl (fun t p => t.set p.1 p.2) tm) ((ps.zip args').foldl (fun t p => t.set p.1 p.2) tm')
  | [], _, _, _, _, _, ht => by simpa using ht
  | p :: ps, [], _, _, _, .nil, ht => by simpa using ht
  | p :: ps, a :: args, _, tm, tm', .cons _ a' _ args' h1 h2, ht => by
    simp only [List.zip_cons_cons, List.foldl_cons]
    exact fold_rel ps args args' _ _ h2 (ht.set p h1)
theorem fold_array (ps : List Tmp) (args : Array Value) (tm : Array Value) :
    (((⟨ps⟩ : Array Tmp).zip args).foldl (fun tmps (t, a) => tmps.setIfInBounds t a) tm).toList = (ps.zip args.toList).foldl (fun t p => t.set p.1 p.2) tm.toList := by
  rw [← Array.foldl_toList, Array.toList_zip]
  generalize ps.zip args.toList = l
  induction l generalizing tm with
  | nil => rfl
  | cons p l ih => simp only [List.foldl_cons]; rw [ih]; simp

section
variable {K : KK} {P : Program} {E : Env} {r : Rec} (hK : ∀ f c, K.ck f c → ∃ fn, P.funcs[f]? = some fn) (hA : RecA r) (hr : RecS K P r)
include hK hA hr

theorem roundIn_s {l l' : Nat} {args : List Value} {args' : Array Value} {H H1 : AH} {e : AEnd} (h : roundIn r l args H = some (e, H1)) {m : Ren} {w : World} (hR : Rel K P m H w) (hl : m.ρ l = some l') (ha : VRs m args args'.toList) :
    ∃ fn tmps' asg body, (Instr.yield l' args').run P w = .ok (.round l' fn tmps' asg body) w ∧ RoundF P l' fn tmps' asg body w (CallR K P m H w H1 e) := by
  simp only [roundIn] at h
  split at h <;> try (simp at h; done)
  rename_i pe fn tmps ps asg body d hget
  cases hb : Nat.beq args.length ps.length with
  | false => simp [hb] at h
  | true =>
    have hlen : args.length = ps.length := by simpa using hb
    simp only [hb, cond_true] at h
    split at h <;> try (simp at h; done)
    rename_i s1 hc1
    split at h <;> try (simp at h; done)
    rename_i pe1 fn1 tm1 ps1 asg1 body1 d1 hget1
    split at h <;> try (simp at h; done)
    rename_i x s2 hc2
    split at h <;> try (simp at h; done)
    rename_i hdf
    split at h <;> try (simp at h; done)
    rename_i pe2 fn2 tm2 ps2 asg2 body2 d2 hget2
    -- the record
    obtain ⟨o0, hw0, ho0⟩ := hR.obj l l' _ hl hget
    cases ho0 with
    | loop _ _ _ _ tm' _ _ _ _ d' k1 k2 htm hd =>
      have hlen' : args'.size = ps.length := by have := ha.length; simp at this; omega
      refine ⟨fn, ((⟨ps⟩ : Array Tmp).zip args').foldl (fun tmps (t, a) => tmps.setIfInBounds t a) tm', asg, body, ?_, ?_⟩
      · simp [Instr.yield, Instr.getLoop, getObj, Sem.run, hw0, hlen']
      · intro c cs
        let b : Frame := { (default : Frame) with fn := fn, kind := .normal, roundOf := some l' }
        let a0 : Act := { tmps := ((⟨ps⟩ : Array Tmp).zip args').foldl (fun tmps (t, a) => tmps.setIfInBounds t a) tm', defers := [] }
        have hb0 : Frame.round l' fn a0.tmps asg body .normal = b.atR a0 [.code asg, .beginRound, .code body] := by simp [Frame.round, Frame.atR, b, a0]
        obtain ⟨m1, a1, w1, cs1, c1, r1, df1, bm1, mv1, e1⟩ := hr.code _ _ _ _ _ hc1 k1 m a0 w b [.beginRound, .code body] (c :: cs) rfl hl hR
          (by simp only [a0]; rw [fold_array]; exact fold_rel ps _ _ _ _ ha htm) .nil (.no _)
        cases mv1
        obtain ⟨t1, st1⟩ := e1
        have ha1 := hA.code _ _ _ _ _ hc1
        -- the round begins
        have hl1 : m1.ρ l = some l' := c1.le.ρ _ _ hl
        obtain ⟨o1, hw1, ho1⟩ := r1.obj l l' _ hl1 hget1
        cases ho1 with
        | loop _ _ _ _ tm1' _ _ _ _ d1' k3 k4 htm1 hd1 =>
          have hp1 := r1.putObj hl1 hget1 (by simp) (by simp) (o := .loop .busy pe1 fn1 tm1 ps1 asg1 body1 d1) (o' := .loop ⟨.busy, pe1, fn1, tm1', ⟨ps1⟩, asg1, body1, d1'⟩) (.loop _ _ _ _ _ _ _ _ _ _ k3 k4 htm1 hd1)
          have hbr : (Instr.beginRound l').run P w1 = .ok () (World.putO w1 l' (.loop ⟨.busy, pe1, fn1, tm1', ⟨ps1⟩, asg1, body1, d1'⟩)) := by
            simp [Instr.beginRound, Instr.getLoop, getObj, setObj, Sem.run, hw1, World.putO]
          have st2 := stepR_beginRound (P := P) (b := b) (a := a1) (k := [.code body]) (cs := c :: cs) (l := l') rfl hbr
          have c2 := c1.trans hp1.2 ha1.next (by rw [low_put]; omega)
          -- the body
          obtain ⟨m2, a2, w2, cs2, c3, r2, df2, bm2, mv2, e2⟩ := hr.code _ _ _ _ _ hc2 k2 m1 a1 _ b [] (c :: cs) rfl hl1 hp1.1 t1 df1 bm1
          cases mv2
          have ha2 := hA.code _ _ _ _ _ hc2
          have hpn : (s1.H.put l (.loop .busy pe1 fn1 tm1 ps1 asg1 body1 d1)).next = s1.H.next := rfl
          have c4 : CSt m w H.next s2.H.low m2 w2 := c2.trans c3 (by rw [hpn]; exact ha1.next) ha2.low
          have hl2 : m2.ρ l = some l' := c3.le.ρ _ _ hl1
          have hn2 : H.next ≤ s2.H.next := by have := ha1.next; have := ha2.next; simp only [hpn] at this; exact Nat.le_trans ha1.next this
          obtain ⟨o2, hw2, ho2⟩ := r2.obj l l' _ hl2 hget2
          cases ho2 with
          | loop _ _ _ _ tm2' _ _ _ _ d2' k5 k6 htm2 hd2 =>
            have pre : ∀ M, Steps P (lone (b.atR a1 [.code body]) (c :: cs) (World.putO w1 l' (.loop ⟨.busy, pe1, fn1, tm1', ⟨ps1⟩, asg1, body1, d1'⟩))) M → Steps P (lone (Frame.round l' fn a0.tmps asg body .normal) (c :: cs) w) M := by
              intro M hM
              rw [hb0]
              exact st1.trans (.head st2 hM)
            have fin : ∀ (st : LoopState) (pe : Option Code), Rel K P m2 (s2.H.put l (.loop st pe fn2 tm2 ps2 asg2 body2 d2)) (World.putO w2 l' (.loop ⟨st, pe, fn2, tm2', ⟨ps2⟩, asg2, body2, d2'⟩)) ∧
                CSt m w H.next (s2.H.put l (.loop st pe fn2 tm2 ps2 asg2 body2 d2)).low m2 (World.putO w2 l' (.loop ⟨st, pe, fn2, tm2', ⟨ps2⟩, asg2, body2, d2'⟩)) := by
              intro st pe
              have hp := r2.putObj hl2 hget2 (by simp) (by simp) (o := .loop st pe fn2 tm2 ps2 asg2 body2 d2) (o' := .loop ⟨st, pe, fn2, tm2', ⟨ps2⟩, asg2, body2, d2'⟩) (.loop _ _ _ _ _ _ _ _ _ _ k5 k6 htm2 hd2)
              exact ⟨hp.1, c4.trans hp.2 hn2 (by rw [low_put]; omega)⟩
            have hend : ∀ jump, (Instr.endRound l' jump).run P w2 = .ok (.bool jump.isNone) (World.putO w2 l' (.loop ⟨if jump.isNone then .ready else .done, jump, fn2, tm2', ⟨ps2⟩, asg2, body2, d2'⟩)) := by
              intro jump
              simp [Instr.endRound, Instr.getLoop, getObj, setObj, Sem.run, hw2, World.putO]
            cases x with
            | nrm =>
              simp only [Option.some.injEq, Prod.mk.injEq] at h; obtain ⟨rfl, rfl⟩ := h
              have hf := fin .ready none
              exact ⟨.returned (.bool true), _, ⟨m2, hf.1, hf.2, .bool true⟩, pre _ (e2.2.trans (.one (stepR_round_end (P := P) rfl rfl (hend none))))⟩
            | ret =>
              simp only [Option.some.injEq, Prod.mk.injEq] at h; obtain ⟨rfl, rfl⟩ := h
              have hf := fin .done (some .ret)
              obtain ⟨_, k', hst⟩ := e2
              exact ⟨.returned (.bool false), _, ⟨m2, hf.1, hf.2, .bool false⟩, pre _ (hst.trans (.one (stepR_round_ret (P := P) rfl rfl (hend (some .ret)))))⟩
            | exit id =>
              simp only [Option.some.injEq, Prod.mk.injEq] at h; obtain ⟨rfl, rfl⟩ := h
              have hf := fin .done (some (.exit id))
              obtain ⟨_, k', hx, hst⟩ := e2
              exact ⟨.returned (.bool false), _, ⟨m2, hf.1, hf.2, .bool false⟩, pre _ (hst.trans (.one (stepR_round_exit (P := P) rfl rfl hx (hend (some (.exit id))))))⟩
            | pan v =>
              simp only [Option.some.injEq, Prod.mk.injEq] at h; obtain ⟨rfl, rfl⟩ := h
              obtain ⟨_, todo, v', hv, hst⟩ := e2
              refine ⟨.panicked [{ v := v', recovered := false }], w2, ⟨m2, r2, c4, v', hv, rfl⟩, pre _ (hst.trans (.one ?_))⟩
              obtain ⟨fnn, hfn⟩ := hK _ _ k1
              rw [hdf] at df2
              have hdd : a2.defers = [] := by generalize a2.defers = l at df2; cases df2; rfl
              exact step_leave_panicked (P := P) (fr := { b.atR a2 todo with mode := .panicking [{ v := v', recovered := false }] }) ⟨rfl, hdd, fnn, hfn⟩
end
end Go.U
end

section
namespace Go.U
set_option autoImplicit false

section steps
variable {P : Program} {b : Frame} {a : Act} {k : List Item} {cs : List Frame} {w w1 : World} {ops : Array Oper} {i : Nat} {rest : List Nat} {o : Oper}
  (ho : ops[i]? = some o) (hw : Region.wanted o (yielded ops a.tmps) = true) (hd : ∀ c, o.op ≠ .defer c)
include ho hw

omit hw in
theorem fin_at (a : Act) (v : Value) : (b.atR a (.inRegion ops (i :: rest) :: k)).finish v = b.atR (a.put o.dst v) (.inRegion ops rest :: k) := by
  rw [Frame.finish_atR, ho]; rfl
include hd
theorem step_value {v : Value} (h : (execOp a.eval o).run P w = .ok (.value v) w1) :
    step P (lone (b.atR a (.inRegion ops (i :: rest) :: k)) cs w) = .next (lone (b.atR (a.put o.dst v) (.inRegion ops rest :: k)) cs w1) := by
  have hg := stepGR_op (P := P) (b := b) (k := k) (cs := cs) (w := w) (rest := rest) ho hw
  rw [Oper.semAt_eq _ _ _ hd] at hg
  refine step_lone_go ?_
  rw [hg, ← fin_at (b := b) (k := k) (rest := rest) ho a v]; simp [stepG.apply, h]
theorem step_skip (h : (execOp a.eval o).run P w = .ok .skip w1) :
    step P (lone (b.atR a (.inRegion ops (i :: rest) :: k)) cs w) = .next (lone (b.atR (a.put o.dst undef) (.inRegion ops rest :: k)) cs w1) := by
  have hg := stepGR_op (P := P) (b := b) (k := k) (cs := cs) (w := w) (rest := rest) ho hw
  rw [Oper.semAt_eq _ _ _ hd] at hg
  refine step_lone_go ?_
  rw [hg, ← fin_at (b := b) (k := k) (rest := rest) ho a undef]; simp [stepG.apply, h]
theorem step_panic {v : Value} (h : (execOp a.eval o).run P w = .halt (.panic v) w1) :
    step P (lone (b.atR a (.inRegion ops (i :: rest) :: k)) cs w) = .next (lone { b.atR a (.inRegion ops (i :: rest) :: k) with mode := .panicking [{ v := v, recovered := false }] } cs w1) := by
  have hg := stepGR_op (P := P) (b := b) (k := k) (cs := cs) (w := w) (rest := rest) ho hw
  rw [Oper.semAt_eq _ _ _ hd] at hg
  refine step_lone_go ?_
  rw [hg, ← Frame.raise_atR]; simp [stepG.apply, h]
theorem step_enter {f : FuncId} {args : Array Value} (h : (execOp a.eval o).run P w = .ok (.enter f args) w1) :
    step P (lone (b.atR a (.inRegion ops (i :: rest) :: k)) cs w) = .next (lone (Frame.enter P f args .normal) (b.atR a (.inRegion ops (i :: rest) :: k) :: cs) w1) := by
  have hg := stepGR_op (P := P) (b := b) (k := k) (cs := cs) (w := w) (rest := rest) ho hw
  rw [Oper.semAt_eq _ _ _ hd] at hg
  refine step_lone_go ?_
  rw [hg]; simp [stepG.apply, h, Frame.atR]
theorem step_round {l : Nat} {f : FuncId} {tmps : Array Value} {asg body : Code} (h : (execOp a.eval o).run P w = .ok (.round l f tmps asg body) w1) :
    step P (lone (b.atR a (.inRegion ops (i :: rest) :: k)) cs w) = .next (lone (Frame.round l f tmps asg body .normal) (b.atR a (.inRegion ops (i :: rest) :: k) :: cs) w1) := by
  have hg := stepGR_op (P := P) (b := b) (k := k) (cs := cs) (w := w) (rest := rest) ho hw
  rw [Oper.semAt_eq _ _ _ hd] at hg
  refine step_lone_go ?_
  rw [hg]; simp [stepG.apply, h, Frame.atR]
theorem step_recover_none (hro : b.roundOf = none) (h : (execOp a.eval o).run P w = .ok .recover w1) (hr : tryRecover (b.atR a (.inRegion ops (i :: rest) :: k)) cs = none) :
    step P (lone (b.atR a (.inRegion ops (i :: rest) :: k)) cs w) = .next (lone (b.atR (a.put o.dst .nilIface) (.inRegion ops rest :: k)) cs w1) := by
  have hg := stepGR_op (P := P) (b := b) (k := k) (cs := cs) (w := w) (rest := rest) ho hw
  rw [Oper.semAt_eq _ _ _ hd] at hg
  refine step_lone_go ?_
  rw [hg, ← fin_at (b := b) (k := k) (rest := rest) ho a .nilIface]
  have hro' : (b.atR a (.inRegion ops (i :: rest) :: k)).roundOf = none := hro
  simp [stepG.apply, h, hro', hr]
theorem step_recover_some (hro : b.roundOf = none) (h : (execOp a.eval o).run P w = .ok .recover w1) {v : Value} {cs1 : List Frame} (hr : tryRecover (b.atR a (.inRegion ops (i :: rest) :: k)) cs = some (v, cs1)) :
    step P (lone (b.atR a (.inRegion ops (i :: rest) :: k)) cs w) = .next (lone (b.atR (a.put o.dst v) (.inRegion ops rest :: k)) cs1 w1) := by
  have hg := stepGR_op (P := P) (b := b) (k := k) (cs := cs) (w := w) (rest := rest) ho hw
  rw [Oper.semAt_eq _ _ _ hd] at hg
  refine step_lone_go ?_
  rw [hg, ← fin_at (b := b) (k := k) (rest := rest) ho a v]
  have hro' : (b.atR a (.inRegion ops (i :: rest) :: k)).roundOf = none := hro
  simp [stepG.apply, h, hro', hr]
omit hd
theorem step_defer {c : Call} (_ : o.op = .defer c) (hro : b.roundOf = none) {d : Deferred} (h : (execOp a.eval o).run P w = .ok (.defer d) w1) :
    step P (lone (b.atR a (.inRegion ops (i :: rest) :: k)) cs w) = .next (lone (b.atR ({ a with defers := d :: a.defers }.put o.dst undef) (.inRegion ops rest :: k)) cs w1) := by
  have hg := stepGR_op (P := P) (b := b) (k := k) (cs := cs) (w := w) (rest := rest) ho hw
  rw [hro, Oper.semAt_none] at hg
  refine step_lone_go ?_
  have : ({ b.atR a (.inRegion ops (i :: rest) :: k) with defers := d :: a.defers } : Frame).finish undef = b.atR ({ a with defers := d :: a.defers }.put o.dst undef) (.inRegion ops rest :: k) :=
    fin_at (b := b) (k := k) (rest := rest) ho { a with defers := d :: a.defers } undef
  rw [hg]; simp only [stepG.apply, Sem.runT_eq, h, GStep.bare_after]
  exact congrArg (fun fr => GStep.go { frame := fr, callers := cs, status := .running, dying := none } w1) this
end steps

section
variable {K : KK} {P : Program} {E : Env} {r : Rec}

/-- Where an operation leaves its region. -/
def OpEnd (P : Program) (b : Frame) (ops : Array Oper) (i : Nat) (rest : List Nat) (k : List Item) (o : Oper) (m : Ren) (a : Act) (ds : List Deferred) (cs : List Frame) (w : World) (M : Machine) : AEnd → Prop
  | .ret v => ∃ v', VR m v v' ∧ Steps P M (lone (b.atR ({ a with defers := ds }.put o.dst v') (.inRegion ops rest :: k)) cs w)
  | .pan v => ∃ v', VR m v v' ∧ Steps P M (lone { b.atR { a with defers := ds } (.inRegion ops (i :: rest) :: k) with mode := .panicking [{ v := v', recovered := false }] } cs w)
def orEnd : OR → AEnd × St
  | .val v s _ => (.ret v, s)
  | .pan v s => (.pan v, s)

def isQ : OR → Bool
  | .val _ _ q => q
  | .pan _ _ => false
theorem BMR.inv {m : Ren} {bm : BM} {kd : CallKind} {cs : List Frame} (h : BMR m bm kd cs) : (bm = .no ∧ kd = .normal) ∨ (kd = .deferred ∧ ∃ c rest, cs = c :: rest ∧ BMu m bm c.mode) := by
  cases h with
  | no => exact .inl ⟨rfl, rfl⟩
  | d => exact .inr ⟨rfl, _, _, rfl, by assumption⟩
theorem call_end {b : Frame} {a : Act} {k : List Item} {cs : List Frame} {w : World} {ops : Array Oper} {i : Nat} {rest : List Nat} {o : Oper}
    (ho : ops[i]? = some o) (hw : Region.wanted o (yielded ops a.tmps) = true) (hd : ∀ c, o.op ≠ .defer c) {f : FuncId} {args : Array Value}
    (hx : (execOp a.eval o).run P w = (callFunc f args).run P w) {m : Ren} {H H1 : AH} {e : AEnd} {q : Bool} (hc : CallF P f args w (CallQ K P m H w H1 e q)) :
    ∃ m1 w1, Rel K P m1 H1 w1 ∧ CSt m w H.next H1.low m1 w1 ∧ (q = true → CSt m w H.next H.next m1 w1) ∧ OpEnd P b ops i rest k o m1 a a.defers cs w1 (lone (b.atR a (.inRegion ops (i :: rest) :: k)) cs w) e := by
  rcases hc with ⟨h1, h2⟩ | ⟨v, w1, h1, m1, h2, h3, h4, h5⟩
  · obtain ⟨en, w1, fr, ⟨m1, q1, q2, q3, q4⟩, hsteps, _, hleave⟩ := h2 (b.atR a (.inRegion ops (i :: rest) :: k) :: cs)
    have hs := step_enter (P := P) (b := b) (k := k) (cs := cs) (rest := rest) ho hw hd (hx.trans h1)
    refine ⟨m1, w1, q1, q2, q4, ?_⟩
    cases e with
    | ret v =>
      cases en with
      | returned v' =>
        refine ⟨v', q3, .head hs (hsteps.trans (.one ?_))⟩
        rw [← fin_at (b := b) (k := k) (rest := rest) ho]
        exact step_leave_returned hleave
      | panicked ch => exact q3.elim
      | outgrown => exact q3.elim
    | pan v =>
      cases en with
      | returned v' => exact q3.elim
      | panicked ch =>
        obtain ⟨v', hv, rfl⟩ := q3
        refine ⟨v', hv, .head hs (hsteps.trans (.one ?_))⟩
        rw [← Frame.raise_atR]
        exact step_leave_panicked hleave
      | outgrown => exact q3.elim
  · cases e with
    | ret u => exact ⟨m1, w1, h2, h3, h5, v, h4, .one (step_value (P := P) ho hw hd (hx.trans h1))⟩
    | pan u => exact h4.elim

theorem round_end {b : Frame} {a : Act} {k : List Item} {cs : List Frame} {w : World} {ops : Array Oper} {i : Nat} {rest : List Nat} {o : Oper}
    (ho : ops[i]? = some o) (hw : Region.wanted o (yielded ops a.tmps) = true) (hd : ∀ c, o.op ≠ .defer c) {l : Nat} {f : FuncId} {tmps : Array Value} {asg body : Code}
    (hx : (execOp a.eval o).run P w = .ok (.round l f tmps asg body) w) {m : Ren} {H H1 : AH} {e : AEnd} (hc : RoundF P l f tmps asg body w (CallR K P m H w H1 e)) :
    ∃ m1 w1, Rel K P m1 H1 w1 ∧ CSt m w H.next H1.low m1 w1 ∧ OpEnd P b ops i rest k o m1 a a.defers cs w1 (lone (b.atR a (.inRegion ops (i :: rest) :: k)) cs w) e := by
  obtain ⟨en, w1, ⟨m1, q1, q2, q3⟩, hsteps⟩ := hc (b.atR a (.inRegion ops (i :: rest) :: k)) cs
  have hs := step_round (P := P) (b := b) (k := k) (cs := cs) (rest := rest) ho hw hd hx
  refine ⟨m1, w1, q1, q2, ?_⟩
  cases e with
  | ret v =>
    cases en with
    | returned v' =>
      refine ⟨v', q3, .head hs ?_⟩
      simp only at hsteps
      rwa [fin_at (b := b) (k := k) (rest := rest) ho] at hsteps
    | panicked ch => exact q3.elim
    | outgrown => exact q3.elim
  | pan v =>
    cases en with
    | returned v' => exact q3.elim
    | panicked ch =>
      obtain ⟨v', hv, rfl⟩ := q3
      refine ⟨v', hv, .head hs ?_⟩
      simp only at hsteps
      rwa [Frame.raise_atR] at hsteps
    | outgrown => exact q3.elim

variable (hT : TOK E.T P) (hI : EnvI P E) (hS : EnvS K P E) (hK : ∀ f c, K.ck f c → ∃ fn, P.funcs[f]? = some fn) (hA : RecA r) (hr : RecS K P r)
include hT hI hS hK hA hr

theorem operE_s {ctx : Ctx} {e : Operand → Option Value} {s : St} {o : Oper} {res : OR} (h : operE E r ctx e s o = some res)
    {m : Ren} {a : Act} {w : World} {b : Frame} {k : List Item} {cs : List Frame} {ops : Array Oper} {i : Nat} {rest : List Nat}
    (ho : ops[i]? = some o) (hw : Region.wanted o (yielded ops a.tmps) = true) (hro : RoR m ctx.round b.roundOf)
    (he : OpdR m e a.eval) (hR : Rel K P m s.H w) (hdf : DfRs m s.df a.defers) (hbm : BMR m s.bm b.kind cs) :
    ∃ m1 w1 ds1 cs1, Rel K P m1 (orEnd res).2.H w1 ∧ CSt m w s.H.next (orEnd res).2.H.low m1 w1 ∧ DfRs m1 (orEnd res).2.df ds1 ∧ BMR m1 (orEnd res).2.bm b.kind cs1 ∧ Moved b.kind cs cs1 ∧
      (orEnd res).2.tm = s.tm ∧ ((∀ c, o.op ≠ .defer c) → (∀ args ats, o.op ≠ .call ⟨.builtin .recover, args, ats⟩) → ds1 = a.defers ∧ cs1 = cs) ∧ (isQ res = true → CSt m w s.H.next s.H.next m1 w1) ∧ OpEnd P b ops i rest k o m1 a ds1 cs1 w1 (lone (b.atR a (.inRegion ops (i :: rest) :: k)) cs w) (orEnd res).1 := by
  have put : ∀ {m1 w1 H1 en} q, Rel K P m1 H1 w1 → CSt m w s.H.next H1.low m1 w1 → (q = true → CSt m w s.H.next s.H.next m1 w1) → OpEnd P b ops i rest k o m1 a a.defers cs w1 (lone (b.atR a (.inRegion ops (i :: rest) :: k)) cs w) en →
      after s (some (en, H1, q)) = some res → ∃ m1 w1 ds1 cs1, Rel K P m1 (orEnd res).2.H w1 ∧ CSt m w s.H.next (orEnd res).2.H.low m1 w1 ∧ DfRs m1 (orEnd res).2.df ds1 ∧ BMR m1 (orEnd res).2.bm b.kind cs1 ∧ Moved b.kind cs cs1 ∧
      (orEnd res).2.tm = s.tm ∧ ((∀ c, o.op ≠ .defer c) → (∀ args ats, o.op ≠ .call ⟨.builtin .recover, args, ats⟩) → ds1 = a.defers ∧ cs1 = cs) ∧ (isQ res = true → CSt m w s.H.next s.H.next m1 w1) ∧ OpEnd P b ops i rest k o m1 a ds1 cs1 w1 (lone (b.atR a (.inRegion ops (i :: rest) :: k)) cs w) (orEnd res).1 := by
    intro m1 w1 H1 en q q1 q2 q4 q3 hq
    cases en with
    | ret v =>
      simp only [after, Option.some.injEq] at hq; subst hq
      exact ⟨m1, w1, a.defers, cs, q1, q2, hdf.mono q2.le, hbm.mono q2.le, Moved.refl hbm, rfl, fun _ _ => ⟨rfl, rfl⟩, q4, q3⟩
    | pan v =>
      simp only [after, Option.some.injEq] at hq; subst hq
      exact ⟨m1, w1, a.defers, cs, q1, q2, hdf.mono q2.le, hbm.mono q2.le, Moved.refl hbm, rfl, fun _ _ => ⟨rfl, rfl⟩, by simp [isQ], q3⟩
  unfold operE at h
  split at h
  · -- a function value is called
    rename_i f args ats hop
    split at h <;> try (simp at h; done)
    rename_i fv vs hf hvs
    have hnd : ∀ c, o.op ≠ .defer c := by rw [hop]; simp
    have hvr := ops1_rel he _ _ hvs
    have hfr := he f fv hf
    unfold invokeIn at h
    split at h
    · rename_i g first cap
      cases hc : callIn E r g (first ++ vs ++ cap) s.H with
      | none => rw [hc] at h; simp [after] at h
      | some p =>
        obtain ⟨en, H1, q⟩ := p
        rw [hc] at h
        generalize hz : a.eval f = z at hfr
        cases hfr with
        | func _ _ first' _ cap' hy h1 h2 =>
          have hall : VRs m (first ++ vs ++ cap) ((⟨first'⟩ ++ args.map a.eval ++ ⟨cap'⟩ : Array Value)).toList := by
            have := (h1.append hvr).append h2
            simpa using this
          have hcf := callIn_s hS hr hc hR hall
          have hx : (execOp a.eval o).run P w = (callFunc g (⟨first'⟩ ++ args.map a.eval ++ ⟨cap'⟩)).run P w := by
            simp [execOp, hop, resolve, hz, Deferred.ofValue, invoke]
          obtain ⟨m1, w1, q1, q2, q4, q3⟩ := call_end (b := b) (k := k) (cs := cs) (rest := rest) ho hw hnd hx hcf
          exact put q q1 q2 q4 q3 h
    · rename_i l
      split at h
      · rename_i en H1 hc
        generalize hz : a.eval f = z at hfr
        have hzz : ∃ l', z = .func (.yield l') #[] #[] ∧ m.ρ l = some l' := by
          cases hfr with
          | func _ _ _ _ _ hy _ _ => simp [noYield] at hy
          | yld _ l' hl => exact ⟨l', rfl, hl⟩
        obtain ⟨l', rfl, hl⟩ := hzz
        have hall : VRs m vs ((args.map a.eval : Array Value)).toList := by simpa using hvr
        obtain ⟨fn, tmps', asg, body, hy, hrf⟩ := roundIn_s hK hA hr hc hR hl hall
        have hx : (execOp a.eval o).run P w = .ok (.round l' fn tmps' asg body) w := by
          simp [execOp, hop, resolve, hz, Deferred.ofValue, invoke, hy]
        obtain ⟨m1, w1, q1, q2, q3⟩ := round_end (b := b) (k := k) (cs := cs) (rest := rest) ho hw hnd hx hrf
        exact put false q1 q2 (by simp) q3 h
      · simp [after] at h
    · simp [after] at h
  · -- a method of an interface value
    rename_i x name args ats hop
    split at h <;> try (simp at h; done)
    rename_i t v vs hx0 hvs
    split at h <;> try (simp at h; done)
    rename_i f off rt hm
    split at h <;> try (simp at h; done)
    rename_i rv hrv
    have hnd : ∀ c, o.op ≠ .defer c := by rw [hop]; simp
    have hvr := ops1_rel he _ _ hvs
    have hfr := he x _ hx0
    cases hc : callIn E r f (rv :: vs) s.H with
    | none => rw [hc] at h; simp [after] at h
    | some p =>
      obtain ⟨en, H1, q⟩ := p
      rw [hc] at h
      generalize hz : a.eval x = z at hfr
      cases hfr with
      | iface _ _ v' hv =>
        obtain ⟨rv', h1, h2⟩ := hI t name f off rt hm m v v' rv w hv hrv
        have hall : VRs m (rv :: vs) ((#[rv'] ++ args.map a.eval : Array Value)).toList := by simpa using VRs.cons _ _ _ _ h1 hvr
        have hcf := callIn_s hS hr hc hR hall
        have hxx : (execOp a.eval o).run P w = (callFunc f (#[rv'] ++ args.map a.eval)).run P w := by
          rw [← h2]
          have e0 : (#[Value.iface t v'] ++ args.map a.eval)[0]? = some (.iface t v') := by rw [Array.getElem?_append_left (by simp)]; rfl
          have e1 : (args.map a.eval).extract 0 args.size = args.map a.eval := by have := Array.extract_size (xs := args.map a.eval); simpa using this
          simp [execOp, hop, resolve, hz, invoke, e0, e1]
        obtain ⟨m1, w1, q1, q2, q4, q3⟩ := call_end (b := b) (k := k) (cs := cs) (rest := rest) ho hw hnd hxx hcf
        exact put q q1 q2 q4 q3 h
  · -- recover
    rename_i args ats hop
    have hnd : ∀ c, o.op ≠ .defer c := by rw [hop]; simp
    have hx : (execOp a.eval o).run P w = .ok .recover w := by simp [execOp, hop, resolve, invoke, builtin]
    split at h
    · rename_i v hcr hbmv
      simp only [Option.some.injEq] at h; subst h
      have hro' : b.roundOf = none := by
        cases hb : b.roundOf with
        | none => rfl
        | some l => rw [hcr, hb] at hro; exact hro.elim
      rw [hbmv] at hbm
      rcases hbm.inv with ⟨h1, _⟩ | ⟨hkd, c, rest', rfl, hu⟩
      · simp at h1
      · obtain ⟨v', hv, hmode⟩ := hu
        have htr : tryRecover (b.atR a (.inRegion ops (i :: rest) :: k)) (c :: rest') = some (v', { c with mode := .panicking [{ v := v', recovered := true }] } :: rest') := by
          simp [tryRecover, Frame.atR, hkd, hmode]
        exact ⟨m, w, a.defers, _, hR, CSt.refl _ _ _ _, hdf, by rw [hkd]; exact .d _ _ _ ⟨v', hv, rfl⟩, by rw [hkd]; exact .d _ _ _, rfl, fun _ h => absurd hop (h _ _), fun _ => CSt.refl _ _ _ _, v', hv, .one (step_recover_some (P := P) ho hw hnd hro' hx htr)⟩
    · rename_i hcr hnp
      simp only [Option.some.injEq] at h; subst h
      have hro' : b.roundOf = none := by
        cases hb : b.roundOf with
        | none => rfl
        | some l => rw [hcr, hb] at hro; exact hro.elim
      have htr : tryRecover (b.atR a (.inRegion ops (i :: rest) :: k)) cs = none := by
        generalize hbb : s.bm = bm at hbm hnp
        rcases hbm.inv with ⟨_, hkd⟩ | ⟨hkd, c, rest', rfl, hu⟩
        · simp [tryRecover, Frame.atR, hkd]
        · cases bm with
          | no => exact hu.elim
          | ret => simp only [BMu] at hu; simp [tryRecover, Frame.atR, hkd, hu]
          | pan v rr =>
            cases rr with
            | false => exact absurd rfl (hnp v)
            | true => obtain ⟨v', _, hu⟩ := hu; simp [tryRecover, Frame.atR, hkd, hu]
      exact ⟨m, w, a.defers, cs, hR, CSt.refl _ _ _ _, hdf, hbm, Moved.refl hbm, rfl, fun _ _ => ⟨rfl, rfl⟩, fun _ => CSt.refl _ _ _ _, .nilIface, .nilIface, .one (step_recover_none (P := P) ho hw hnd hro' hx htr)⟩
    · simp at h
  · -- panic
    rename_i x hop
    split at h <;> try (simp at h; done)
    rename_i t v hx0
    simp only [Option.some.injEq] at h; subst h
    have hnd : ∀ c, o.op ≠ .defer c := by rw [hop]; simp
    have hfr := he x _ hx0
    refine ⟨m, w, a.defers, cs, hR, CSt.refl _ _ _ _, hdf, hbm, Moved.refl hbm, rfl, fun _ _ => ⟨rfl, rfl⟩, fun _ => CSt.refl _ _ _ _, a.eval x, hfr, .one (step_panic (P := P) ho hw hnd ?_)⟩
    generalize hz : a.eval x = z at hfr
    cases hfr with
    | iface _ _ v' hv => simp [execOp, hop, hz, Instr.panic]
  · -- defer
    rename_i f args ats hop
    split at h <;> try (simp at h; done)
    rename_i g first cap vs hcr hf hvs
    simp only [Option.some.injEq] at h; subst h
    have hro' : b.roundOf = none := by
      cases hb : b.roundOf with
      | none => rfl
      | some l => rw [hcr, hb] at hro; exact hro.elim
    have hvr := ops1_rel he _ _ hvs
    have hfr := he f _ hf
    generalize hz : a.eval f = z at hfr
    cases hfr with
    | func _ _ first' _ cap' hy h1 h2 =>
      have hx : (execOp a.eval o).run P w = .ok (.defer { target := .fn (.func g) ⟨cap'⟩, args := ⟨first'⟩ ++ args.map a.eval }) w := by
        simp [execOp, hop, resolve, hz, Deferred.ofValue]
      have hall : VRs m (first ++ vs ++ cap) (((⟨first'⟩ ++ args.map a.eval : Array Value) ++ (⟨cap'⟩ : Array Value))).toList := by
        have := (h1.append hvr).append h2
        simpa using this
      exact ⟨m, w, _, cs, hR, CSt.refl _ _ _ _, .fn g _ _ _ _ _ hall hdf, hbm, Moved.refl hbm, rfl, fun h _ => absurd hop (h _), fun _ => CSt.refl _ _ _ _, undef, VR.undef m, .one (step_defer (P := P) ho hw hop hro' hx)⟩
  · -- no call
    rename_i hn1 hn2 hn3 hn4 hn5
    have key : ∃ v H1 q, opN E.T e s.H o.op = some (v, H1, q) ∧ res = .val v { s with H := H1 } q := by
      unfold opN
      split at h
      · rename_i hp
        simp only [Option.some.injEq] at h; subst h
        exact ⟨_, _, _, by rw [hp], rfl⟩
      · rename_i hp
        rw [hp]
        split at h
        · rename_i hp2
          simp only [Option.some.injEq] at h; subst h
          exact ⟨_, _, _, by rw [hp2], rfl⟩
        · rename_i hp2
          rw [hp2]
          split at h
          · rename_i hp3
            simp only [Option.some.injEq] at h; subst h
            exact ⟨_, _, _, by rw [hp3], rfl⟩
          · rename_i hp3
            rw [hp3]
            split at h
            · rename_i hp4
              simp only [Option.some.injEq] at h; subst h
              exact ⟨_, _, _, by rw [hp4], rfl⟩
            · simp at h
    obtain ⟨v, H1, q, hop, rfl⟩ := key
    have hnd : ∀ c, o.op ≠ .defer c := fun c hc => by rw [hc] at hop; simp [opN, pureOp, readOp, allocOp, effOp] at hop
    obtain ⟨m1, v', w1, q1, q2, q3, q4, q5⟩ := s_opN hT hR he o v H1 q hop
    refine ⟨m1, w1, a.defers, cs, q3, q4, hdf.mono q4.le, hbm.mono q4.le, Moved.refl hbm, rfl, fun _ _ => ⟨rfl, rfl⟩, q5, v', q1, ?_⟩
    rcases q2 with q2 | ⟨q2, rfl⟩
    · exact .one (step_value (P := P) ho hw hnd q2)
    · exact .one (step_skip (P := P) ho hw hnd q2)
end
end Go.U
end

section
namespace Go.U
set_option autoImplicit false

/-- What is asked of code. -/
def KEc (E : Env) (P : Program) (f : FuncId) (c : Code) : Prop := codeOK E f c = true ∧ ∃ fn, P.funcs[f]? = some fn
abbrev KE (E : Env) (P : Program) (B : Nat) (gl : GL) : KK := ⟨KEc E P, B, gl⟩

section
variable {K : KK} {P : Program}

theorem Ends.of_steps {b : Frame} {k : List Item} {y : X} {m : Ren} {s : St} {a : Act} {cs : List Frame} {w : World} {M M' : Machine} (h : Steps P M M') (he : Ends P b k y m s a cs w M') : Ends P b k y m s a cs w M := by
  cases y with
  | nrm => exact ⟨he.1, h.trans he.2⟩
  | ret => obtain ⟨h1, k', h2⟩ := he; exact ⟨h1, k', h.trans h2⟩
  | exit id => obtain ⟨h1, k', h2, h3⟩ := he; exact ⟨h1, k', h2, h.trans h3⟩
  | pan v => obtain ⟨h1, todo, v', h2, h3⟩ := he; exact ⟨h1, todo, v', h2, h.trans h3⟩

theorem put_rel {m : Ren} {tm : List Value} {a : Act} (h : VRs m tm a.tmps.toList) (d : Option Tmp) {v v' : Value} (hv : VR m v v') : VRs m (putT tm d v) (a.put d v').tmps.toList := by
  cases d with
  | none => exact h
  | some d => simpa [putT, Act.put] using h.set d hv
theorem put_defers (a : Act) (d : Option Tmp) (v : Value) : (a.put d v).defers = a.defers := by cases d <;> rfl

theorem wanted_s {m : Ren} {tm : List Value} {a : Act} {ops : Array Oper} {o : Oper} {wt : Bool} (h : wantedF ops.toList tm o = some wt)
    (hv : ∀ j want t, o.guard = some (j, want) → slotOf ops.toList j = some t → VR m (tm.getD t undef) (a.tmps.getD t undef)) : Region.wanted o (yielded ops a.tmps) = wt := by
  simp only [wantedF] at h
  unfold Region.wanted
  split at h
  · rename_i hg; simp only [Option.some.injEq] at h; subst h; rw [hg]
  · rename_i j want hg
    rw [hg]
    simp only
    split at h
    · simp at h
    · rename_i t ht
      have hr := hv j want t hg ht
      have hy : yielded ops a.tmps j = (match a.tmps[t]? with | some (.bool b) => some b | _ => none) := by
        unfold yielded
        have hb : (ops[j]?).bind (·.dst) = some t := by
          simp only [slotOf] at ht
          cases ho : ops[j]? with
          | none => have : ops.toList[j]? = none := by simpa using ho
                    rw [this] at ht; simp at ht
          | some o' => have : ops.toList[j]? = some o' := by simpa using ho
                       rw [this] at ht; simpa using ht
        rw [hb]; rfl
      rw [hy]
      have hget : a.tmps.getD t undef = (a.tmps[t]?).getD undef := by rw [Array.getD_eq_getD_getElem?]
      rw [hget] at hr
      generalize tm.getD t undef = z at hr h
      cases hz : a.tmps[t]? with
      | none =>
        rw [hz] at hr
        simp only [Option.getD_none] at hr
        cases hr with
        | tuple => simp at h; subst h; rfl
      | some z' =>
        rw [hz] at hr
        simp only [Option.getD_some] at hr
        cases hr <;> simp at h <;> first
          | (subst h; rfl)
          | (subst h; rename_i b; cases b <;> cases want <;> rfl)

variable {E : Env} {r : Rec}
variable (hT : TOK E.T P) (hI : EnvI P E) (hS : EnvS K P E) (hK : ∀ f c, K.ck f c → ∃ fn, P.funcs[f]? = some fn) (hE : EnvA E) (hA : RecA r) (hr : RecS K P r)
include hT hI hS hK hE hA hr

theorem region_s {ctx : Ctx} {ops : Array Oper} : ∀ (l : List Oper) (n : Nat) (s : St) (y : X) (s1 : St), ops.toList.drop n = l → region E r ctx ops.toList l s = some (y, s1) →
    ∀ (m : Ren) (a : Act) (w : World) (b : Frame) (k : List Item) (cs : List Frame), b.fn = ctx.fn → RoR m ctx.round b.roundOf → Rel K P m s.H w → VRs m s.tm a.tmps.toList → DfRs m s.df a.defers → BMR m s.bm b.kind cs →
    ∃ m1 a1 w1 cs1, CSt m w s.H.next s1.H.low m1 w1 ∧ Rel K P m1 s1.H w1 ∧ DfRs m1 s1.df a1.defers ∧ BMR m1 s1.bm b.kind cs1 ∧ Moved b.kind cs cs1 ∧
      Ends P b k y m1 s1 a1 cs1 w1 (lone (b.atR a (.inRegion ops (List.range' n l.length) :: k)) cs w)
  | [], n, s, y, s1, _, h, m, a, w, b, k, cs, _, _, hR, htm, hdf, hbm => by
    simp only [region, Option.some.injEq, Prod.mk.injEq] at h; obtain ⟨rfl, rfl⟩ := h
    exact ⟨m, a, w, cs, CSt.refl _ _ _ _, hR, hdf, hbm, Moved.refl hbm, htm, .one stepR_region_end⟩
  | o :: l, n, s, y, s1, hl, h, m, a, w, b, k, cs, hfn, hro, hR, htm, hdf, hbm => by
    have hon : ops[n]? = some o := by
      have : (ops.toList.drop n)[0]? = some o := by rw [hl]; rfl
      simpa using this
    have hl' : ops.toList.drop (n + 1) = l := by rw [← List.drop_drop, hl]; rfl
    have hrg : List.range' n (o :: l).length = n :: List.range' (n + 1) l.length := by simp [List.range'_succ]
    rw [hrg]
    have hwt : ∀ wt, wantedF ops.toList s.tm o = some wt → Region.wanted o (yielded ops a.tmps) = wt := fun wt hw =>
      wanted_s (m := m) hw fun j want t _ _ => by
        have := htm.getD t (VR.undef m)
        simpa [Array.getD_eq_getD_getElem?, List.getD_eq_getElem?_getD] using this
    simp only [region] at h
    split at h
    · simp at h
    · rename_i hw
      have hst := stepR_op_skip (P := P) (b := b) (a := a) (k := k) (cs := cs) (w := w) (ops := ops) (i := n) (rest := List.range' (n + 1) l.length) (by rw [hon]; simp [hwt _ hw])
      rw [hon] at hst
      obtain ⟨m1, a1, w1, cs1, c1, r1, d1, b1, mv, e1⟩ := region_s l (n + 1) _ y s1 hl' h m (a.put o.dst undef) w b k cs hfn hro hR (put_rel htm o.dst (VR.undef m)) (by rw [put_defers]; exact hdf) hbm
      exact ⟨m1, a1, w1, cs1, c1, r1, d1, b1, mv, e1.of_steps (.one hst)⟩
    · rename_i hw
      split at h
      · simp at h
      · rename_i v s2 hop
        simp only [Option.some.injEq, Prod.mk.injEq] at h; obtain ⟨rfl, rfl⟩ := h
        obtain ⟨m1, w1, ds1, cs1, q1, q2, q3, q4, q5, q6, _, _, v', q7, q8⟩ := operE_s (K := K) hT hI hS hK hA hr hop (rest := List.range' (n + 1) l.length) (k := k) hon (hwt _ hw) hro (opd_rel htm) hR hdf hbm
        exact ⟨m1, { a with defers := ds1 }, w1, cs1, q2, q1, q3, q4, q5, by simp only [orEnd] at q6; rw [q6]; exact (htm.mono q2.le).top, _, v', q7, q8⟩
      · rename_i v s2 q hop
        have ha := (oper_ast hE hA hop).1
        obtain ⟨m1, w1, ds1, cs1, q1, q2, q3, q4, q5, q6, _, _, v', q7, q8⟩ := operE_s (K := K) hT hI hS hK hA hr hop (rest := List.range' (n + 1) l.length) (k := k) hon (hwt _ hw) hro (opd_rel htm) hR hdf hbm
        simp only [orEnd] at q1 q2 q3 q4 q6
        have htm' : VRs m1 (putT s2.tm o.dst v) (({ a with defers := ds1 } : Act).put o.dst v').tmps.toList := by
          rw [q6]; exact put_rel (a := { a with defers := ds1 }) (htm.mono q2.le) o.dst q7
        obtain ⟨m2, a2, w2, cs2, c1, r1, d1, b1, mv, e1⟩ := region_s l (n + 1) _ y s1 hl' h m1 (({ a with defers := ds1 } : Act).put o.dst v') w1 b k cs1 hfn (hro.mono q2.le) q1 htm' (by rw [put_defers]; exact q3) q4
        have ha2 := region_ast hE hA _ _ _ _ h
        exact ⟨m2, a2, w2, cs2, q2.trans c1 ha.next ha2.low, r1, d1, b1, q5.trans mv, e1.of_steps q8⟩
end
end Go.U
end

section
namespace Go.U
set_option autoImplicit false

section steps
variable {P : Program} {b : Frame} {a : Act} {k : List Item} {cs : List Frame} {w : World}
theorem stepR_rangeFunc_value {g : Operand} {ps : Array Tmp} {assign body : Code} {l : Nat} {mark : List Deferred} {w₁ w₁' w₂ : World} {d : Deferred} {v : Value}
    (he : (Instr.enterLoop b.fn a.tmps ps assign body b.roundOf).run P w = .ok (l, mark) w₁)
    (hres : (resolve a.eval (rangeCall g l) 0).run P w₁ = .ok d w₁') (hinv : (invoke d.target d.args).run P w₁' = .ok (.value v) w₂) :
    step P (lone (b.atR a (.code (.rangeFunc g ps assign body) :: k)) cs w) =
      .next (lone (b.atR { a with defers := mark ++ a.defers } (.endRangeFunc l :: k)) cs w₂) :=
  step_lone_go (by
    have hev := Frame.eval_atR b { a with defers := mark ++ a.defers } (.inRangeFunc l :: k)
    simp only [Frame.atR] at hev
    have hres' : Sem.run P (resolve ({ tmps := a.tmps, defers := mark ++ a.defers } : Act).eval { callee := .value g, args := #[.const (.func (.yield l) #[] #[])], argTypes := #[] } 0) w₁ = .ok d w₁' := hres
    simp [stepG, stepG.exec, Frame.atR, Sem.runT_eq, he, GStep.bare_after, stepG.apply, hev, Sem.run_bind, hres', hinv, Result.andThen, Frame.finish])
end steps

section
variable {K : KK} {P : Program} {E : Env} {r : Rec}
variable (hS : EnvS K P E) (hE : EnvA E) (hA : RecA r) (hr : RecS K P r)
include hS hE hA hr

theorem rangeIn_s {ctx : Ctx} {g : Operand} {fv : Value} {ps : List Tmp} {asg body : Code} {s : St} {y : X} {s1 : St} (h : rangeIn E r ctx fv ps asg body s = some (y, s1))
    (k1 : K.ck ctx.fn asg) (k2 : K.ck ctx.fn body) {m : Ren} {a : Act} {w : World} {b : Frame} {k : List Item} {cs : List Frame} (hfn : b.fn = ctx.fn) (hro : RoR m ctx.round b.roundOf)
    (hg : VR m fv (a.eval g)) (hR : Rel K P m s.H w) (htm : VRs m s.tm a.tmps.toList) (hdf : DfRs m s.df a.defers) (hbm : BMR m s.bm b.kind cs) :
    ∃ m1 a1 w1 cs1, CSt m w s.H.next s1.H.low m1 w1 ∧ Rel K P m1 s1.H w1 ∧ DfRs m1 s1.df a1.defers ∧ BMR m1 s1.bm b.kind cs1 ∧ Moved b.kind cs cs1 ∧
      Ends P b k y m1 s1 a1 cs1 w1 (lone (b.atR a (.code (.rangeFunc g ⟨ps⟩ asg body) :: k)) cs w) := by
  simp only [rangeIn] at h
  split at h
  · simp at h
  · rename_i d s0 h0
    -- the block for deferred calls
    have first : ∃ m0 w0 mark d', Rel K P m0 s0.H w0 ∧ CSt m w s.H.next s0.H.low m0 w0 ∧ DfRs m0 s0.df (mark ++ a.defers) ∧ m0.ρ d = some d' ∧ s0.tm = s.tm ∧ s0.bm = s.bm ∧ s.H.next ≤ s0.H.next ∧
        ∀ lo : Loop, lo.defers = d' → (Instr.enterLoop b.fn a.tmps ⟨ps⟩ asg body b.roundOf).run P w = .ok (w0.heap.size, mark) (w0.alloc (.loop ⟨.ready, none, b.fn, a.tmps, ⟨ps⟩, asg, body, d'⟩)) := by
      split at h0
      · rename_i hcr
        simp only [Option.some.injEq, Prod.mk.injEq] at h0; obtain ⟨rfl, rfl⟩ := h0
        have hb : b.roundOf = none := by
          cases hb : b.roundOf with
          | none => rfl
          | some l => rw [hcr, hb] at hro; exact hro.elim
        have hp := hR.push 0 (o := .dblk true) (o' := .deferred (some [])) (by simp) .dopen
        have hc := CSt.alloc hR (.deferred (some [])) 0 s.H.low
        refine ⟨_, _, [{ target := .collected w.heap.size, args := #[] }], w.heap.size, hp, hc, .mark _ _ _ _ (Ren.bind_same _ _ _ _) (hdf.mono hc.le), Ren.bind_same _ _ _ _, rfl, rfl, Nat.le_succ _, fun _ _ => ?_⟩
        simp [Instr.enterLoop, hb]
      · rename_i l hcr
        split at h0
        · rename_i st pe fn tm ps0 asg0 body0 d0 hget
          simp only [Option.some.injEq, Prod.mk.injEq] at h0; obtain ⟨rfl, rfl⟩ := h0
          have hb : ∃ l', b.roundOf = some l' ∧ m.ρ l = some l' := by
            cases hb : b.roundOf with
            | none => rw [hcr, hb] at hro; exact hro.elim
            | some l' => rw [hcr, hb] at hro; exact ⟨l', rfl, hro⟩
          obtain ⟨l', hb, hl⟩ := hb
          obtain ⟨o1, hw1, ho1⟩ := hR.obj l l' _ hl hget
          cases ho1 with
          | loop _ _ _ _ tm' _ _ _ _ d' _ _ _ hd =>
            refine ⟨m, w, [], d', hR, CSt.refl _ _ _ _, hdf, hd, rfl, rfl, Nat.le_refl _, fun _ _ => ?_⟩
            simp [Instr.enterLoop, hb, Instr.getLoop, getObj, Sem.run, hw1]
        · simp at h0
    obtain ⟨m0, w0, mark, d', r0, c0, df0, hd, ht0, hb0, hn0, hent⟩ := first
    have hent := hent ⟨.ready, none, b.fn, a.tmps, ⟨ps⟩, asg, body, d'⟩ rfl
    have hn0' : m0.ρ s0.H.next = none := r0.fresh (Nat.le_refl _)
    have hle2 := m0.le_bind s0.H.next w0.heap.size 0 hn0'
    have r2 := r0.push 0 (o := .loop .ready none ctx.fn s0.tm ps asg body d) (o' := .loop ⟨.ready, none, b.fn, a.tmps, ⟨ps⟩, asg, body, d'⟩) (by simp)
      (by rw [hfn, ht0]; exact .loop _ _ _ _ _ _ _ _ _ _ k1 k2 ((htm.mono c0.le).mono hle2) (hle2.ρ _ _ hd))
    have c2 := CSt.alloc r0 (.loop ⟨.ready, none, b.fn, a.tmps, ⟨ps⟩, asg, body, d'⟩) 0 s0.H.low
    have c02 : CSt m w s.H.next s0.H.low _ _ := c0.trans c2 hn0 (Nat.le_refl _)
    have hl2 : (m0.bind s0.H.next w0.heap.size 0).ρ s0.H.next = some w0.heap.size := Ren.bind_same _ _ _ _
    split at h <;> try (simp at h; done)
    rename_i f fst cap
    generalize hz : a.eval g = z at hg
    cases hg with
    | func _ _ fst' _ cap' hy h1 h2 =>
      have hle := c02.le
      have hall : VRs (m0.bind s0.H.next w0.heap.size 0) (fst ++ [.func (.yield s0.H.next) #[] #[]] ++ cap) ((⟨fst'⟩ ++ #[Value.func (.yield w0.heap.size) #[] #[]] ++ ⟨cap'⟩ : Array Value)).toList := by
        have := ((h1.mono hle).append (VRs.cons _ _ _ _ (.yld _ _ hl2) .nil)).append (h2.mono hle)
        simpa using this
      have hres : (resolve a.eval (rangeCall g w0.heap.size) 0).run P (w0.alloc (.loop ⟨.ready, none, b.fn, a.tmps, ⟨ps⟩, asg, body, d'⟩)) =
          .ok { target := .fn (.func f) ⟨cap'⟩, args := ⟨fst'⟩ ++ #[.func (.yield w0.heap.size) #[] #[]] } (w0.alloc (.loop ⟨.ready, none, b.fn, a.tmps, ⟨ps⟩, asg, body, d'⟩)) := by
        have hev : ∀ v, a.eval (.const v) = v := fun _ => rfl
        simp [resolve, hz, Deferred.ofValue, hev]
      have hinv : ∀ x, (callFunc f (⟨fst'⟩ ++ #[Value.func (.yield w0.heap.size) #[] #[]] ++ ⟨cap'⟩)).run P (w0.alloc (.loop ⟨.ready, none, b.fn, a.tmps, ⟨ps⟩, asg, body, d'⟩)) = x →
          (invoke (.fn (.func f) ⟨cap'⟩) (⟨fst'⟩ ++ #[Value.func (.yield w0.heap.size) #[] #[]])).run P (w0.alloc (.loop ⟨.ready, none, b.fn, a.tmps, ⟨ps⟩, asg, body, d'⟩)) = x := by
        intro x hx; simpa [invoke] using hx
      -- the call, as a step of this frame
      have tail : ∀ e H1 q, callIn E r f (fst ++ [.func (.yield s0.H.next) #[] #[]] ++ cap) (s0.H.push (.loop .ready none ctx.fn s0.tm ps asg body d)) = some (e, H1, q) →
          ∃ m3 w3, Rel K P m3 H1 w3 ∧ CSt m w s.H.next H1.low m3 w3 ∧ m3.ρ s0.H.next = some w0.heap.size ∧ m.Le m3 ∧ m0.Le m3 ∧ s.H.next ≤ H1.next ∧
            (match e with
            | .ret _ => Steps P (lone (b.atR a (.code (.rangeFunc g ⟨ps⟩ asg body) :: k)) cs w) (lone (b.atR { a with defers := mark ++ a.defers } (.endRangeFunc w0.heap.size :: k)) cs w3)
            | .pan v => ∃ v', VR m3 v v' ∧ Steps P (lone (b.atR a (.code (.rangeFunc g ⟨ps⟩ asg body) :: k)) cs w) (lone { b.atR { a with defers := mark ++ a.defers } (.inRangeFunc w0.heap.size :: k) with mode := .panicking [{ v := v', recovered := false }] } cs w3)) := by
        intro e H1 q hc
        have hcf := callIn_s hS hr hc r2 hall
        have ha3 := (callIn_ast hE hA hc).1
        have hl0 : (s0.H.push (.loop .ready none ctx.fn s0.tm ps asg body d)).low = s0.H.low := rfl
        have hn1 : (s0.H.push (.loop .ready none ctx.fn s0.tm ps asg body d)).next = s0.H.next + 1 := rfl
        have hlow := ha3.low
        have hnx := ha3.next
        rw [hl0] at hlow
        rw [hn1] at hnx
        have close : ∀ m3 w3, CSt (m0.bind s0.H.next w0.heap.size 0) (w0.alloc (.loop ⟨.ready, none, b.fn, a.tmps, ⟨ps⟩, asg, body, d'⟩)) (s0.H.next + 1) H1.low m3 w3 →
            CSt m w s.H.next H1.low m3 w3 ∧ m3.ρ s0.H.next = some w0.heap.size ∧ m.Le m3 ∧ m0.Le m3 ∧ s.H.next ≤ H1.next := fun m3 w3 hc3 =>
          ⟨c02.trans hc3 (by omega) hlow, hc3.le.ρ _ _ hl2, hle.trans hc3.le, hle2.trans hc3.le, by omega⟩
        rcases hcf with ⟨q1, q2⟩ | ⟨v, w3, q1, m3, q2, q3, q4, _⟩
        · have hs := stepR_rangeFunc (P := P) (b := b) (a := a) (k := k) (cs := cs) (w := w) hent hres (hinv _ q1)
          obtain ⟨en, w3, fr, ⟨m3, q3, q4, q5, _⟩, hsteps, _, hleave⟩ := q2 (b.atR { a with defers := mark ++ a.defers } (.inRangeFunc w0.heap.size :: k) :: cs)
          obtain ⟨z1, z2, z3, z4, z5⟩ := close m3 w3 q4
          refine ⟨m3, w3, q3, z1, z2, z3, z4, z5, ?_⟩
          cases e with
          | ret u =>
            cases en with
            | returned v' =>
              refine .head hs (hsteps.trans (.one ?_))
              rw [← finish_atR_inRangeFunc (b := b) (k := k) (a := { a with defers := mark ++ a.defers }) w0.heap.size v']
              exact step_leave_returned hleave
            | panicked ch => exact q5.elim
            | outgrown => exact q5.elim
          | pan u =>
            cases en with
            | returned v' => exact q5.elim
            | panicked ch =>
              obtain ⟨v', hv, rfl⟩ := q5
              refine ⟨v', hv, .head hs (hsteps.trans (.one ?_))⟩
              rw [← Frame.raise_atR]
              exact step_leave_panicked hleave
            | outgrown => exact q5.elim
        · obtain ⟨z1, z2, z3, z4, z5⟩ := close m3 w3 q3
          refine ⟨m3, w3, q2, z1, z2, z3, z4, z5, ?_⟩
          cases e with
          | ret u => exact .one (stepR_rangeFunc_value (P := P) (b := b) (a := a) (k := k) (cs := cs) (w := w) hent hres (hinv _ q1))
          | pan u => exact q4.elim
      split at h
      · -- it panics
        rename_i v H1 q hc
        simp only [Option.some.injEq, Prod.mk.injEq] at h; obtain ⟨rfl, rfl⟩ := h
        obtain ⟨m3, w3, z0, z1, z2, z3, z4, z5, v', hv, hst⟩ := tail _ _ _ hc
        exact ⟨m3, { a with defers := mark ++ a.defers }, w3, cs, z1, z0, df0.mono z4, by rw [hb0]; exact hbm.mono z3, Moved.refl hbm, by rw [ht0]; exact (htm.mono z3).top, _, v', hv, hst⟩
      · rename_i v H1 q hc
        obtain ⟨m3, w3, z0, z1, z2, z3, z4, z5, hst⟩ := tail _ _ _ hc
        simp only at hst
        -- the record at the end
        split at h <;> try (simp at h; done)
        rename_i st pe fn3 tm3 ps3 asg3 body3 d3 hnb hget
        obtain ⟨o3, hw3, ho3⟩ := z0.obj _ _ _ z2 hget
        cases ho3 with
        | loop _ _ _ _ tm3' _ _ _ _ d3' k3 k4 htm3 hd3 =>
          have hp := z0.putObj z2 hget (by simp) (by simp) (o := .loop .exhausted pe fn3 tm3 ps3 asg3 body3 d3) (o' := .loop ⟨.exhausted, pe, fn3, tm3', ⟨ps3⟩, asg3, body3, d3'⟩) (.loop _ _ _ _ _ _ _ _ _ _ k3 k4 htm3 hd3)
          have hnb' : st ≠ .busy := fun e => hnb e
          have hend : (Instr.endLoop w0.heap.size).run P w3 = .ok pe (World.putO w3 w0.heap.size (.loop ⟨.exhausted, pe, fn3, tm3', ⟨ps3⟩, asg3, body3, d3'⟩)) := by
            simp [Instr.endLoop, Instr.getLoop, getObj, setObj, Sem.run, hw3, hnb', World.putO]
          have hst2 := hst.trans (.one (stepR_endRangeFunc (P := P) (b := b) (a := { a with defers := mark ++ a.defers }) (k := k) (cs := cs) hend))
          have c5 : CSt m w s.H.next (H1.put s0.H.next (.loop .exhausted pe fn3 tm3 ps3 asg3 body3 d3)).low m3 _ := z1.trans hp.2 z5 (by rw [low_put]; omega)
          have htm' : VRs m3 s0.tm a.tmps.toList := by rw [ht0]; exact htm.mono z3
          have hbm' : BMR m3 s0.bm b.kind cs := by rw [hb0]; exact hbm.mono z3
          split at h
          · simp only [Option.some.injEq, Prod.mk.injEq] at h; obtain ⟨rfl, rfl⟩ := h
            exact ⟨m3, { a with defers := mark ++ a.defers }, _, cs, c5, hp.1, df0.mono z4, hbm', Moved.refl hbm, htm', hst2⟩
          · simp only [Option.some.injEq, Prod.mk.injEq] at h; obtain ⟨rfl, rfl⟩ := h
            exact ⟨m3, { a with defers := mark ++ a.defers }, _, cs, c5, hp.1, df0.mono z4, hbm', Moved.refl hbm, htm', k, hst2⟩
          · simp only [Option.some.injEq, Prod.mk.injEq] at h; obtain ⟨rfl, rfl⟩ := h
            exact ⟨m3, { a with defers := mark ++ a.defers }, _, cs, c5, hp.1, df0.mono z4, hbm', Moved.refl hbm, htm', k, rfl, hst2⟩
          · simp at h
      · simp at h
end
end Go.U
end
