/- A table of proved calls: how an entry is matched with what lies. · A table of proved calls: sound. · A table of proved calls: what an entry says holds. · A twin of the evaluator that the kernel reduces more quickly, and that it is the same. · The quick twin: operations, regions, code. · The quick twin: regions, code, calls. · Tables of proved calls, one upon the other. · Summaries of functions of Go's library: what they compute, and that it is what the shelf's contracts say. No program in sight. -/
import Derived.Test.YtfcbemhokihmoaaGreatDoorA3
import Derived.Lib.ItoaNum
import Derived.Lib.SplitLaws
import Derived.Lib.IndexBytes
import Derived.Lib.Join
import Derived.Lib.Strings
set_option linter.all false
section
namespace Go.U
set_option autoImplicit false

/-! ### renaming by a list of names -/
def Ren.comp (m : Ren) (A : List Nat) : Ren := ⟨fun i => match A[i]? with | some b => m.ρ b | none => none, fun i => match A[i]? with | some b => m.κ b | none => 0⟩
theorem Ren.comp_some {m : Ren} {A : List Nat} {i b : Nat} (h : A[i]? = some b) : (m.comp A).ρ i = m.ρ b ∧ (m.comp A).κ i = m.κ b := by simp [Ren.comp, h]
theorem Ren.comp_inv {m : Ren} {A : List Nat} {i x : Nat} (h : (m.comp A).ρ i = some x) : ∃ b, A[i]? = some b ∧ m.ρ b = some x := by
  simp only [Ren.comp] at h
  cases hA : A[i]? with
  | none => rw [hA] at h; simp at h
  | some b => rw [hA] at h; exact ⟨b, rfl, h⟩
theorem Ren.comp_le (m : Ren) (A t : List Nat) : (m.comp A).Le (m.comp (A ++ t)) where
  ρ i x h := by
    obtain ⟨b, h1, h2⟩ := Ren.comp_inv h
    rw [(Ren.comp_some (A := A ++ t) (by rw [List.getElem?_append_left (List.getElem?_eq_some_iff.1 h1).1]; exact h1)).1]; exact h2
  κ i x h := by
    obtain ⟨b, h1, h2⟩ := Ren.comp_inv h
    rw [(Ren.comp_some h1).2, (Ren.comp_some (A := A ++ t) (by rw [List.getElem?_append_left (List.getElem?_eq_some_iff.1 h1).1]; exact h1)).2]
def bindN (A : List Nat) (i b : Nat) : Option (List Nat) := match A[i]? with
  | some c => bif Nat.beq b c then some A else none
  | none => bif Nat.beq i A.length && !memN b A then some (A ++ [b]) else none
theorem bindN_spec {A A' : List Nat} {i b : Nat} (h : bindN A i b = some A') : (∃ t, A' = A ++ t) ∧ A'[i]? = some b ∧ (A.Nodup → A'.Nodup) := by
  simp only [bindN] at h
  split at h
  · rename_i c hc
    cases hb : Nat.beq b c with
    | false => simp [hb] at h
    | true =>
      simp only [hb, cond_true, Option.some.injEq] at h; subst h
      have : b = c := by simpa using hb
      subst this
      exact ⟨⟨[], by simp⟩, hc, id⟩
  · rename_i hc
    cases hb : (Nat.beq i A.length && !memN b A) with
    | false => simp [hb] at h
    | true =>
      simp only [hb, cond_true, Option.some.injEq] at h; subst h
      simp only [Bool.and_eq_true, Bool.not_eq_true'] at hb
      have hi : i = A.length := by simpa using hb.1
      have hm : b ∉ A := fun hm => by rw [(memN_iff b A).2 hm] at hb; simp at hb
      subst hi
      refine ⟨⟨[b], rfl⟩, by simp, fun hn => ?_⟩
      rw [List.nodup_append]
      exact ⟨hn, by simp, by intro x hx y hy; simp at hy; subst hy; exact fun e => hm (e ▸ hx)⟩
def eqBL : List UInt8 → List UInt8 → Bool
  | [], [] => true
  | a :: l, b :: r => bif Nat.beq a.toNat b.toNat then eqBL l r else false
  | _, _ => false
theorem eqBL_eq : ∀ {a b : List UInt8}, eqBL a b = true → a = b
  | [], [], _ => rfl
  | [], _ :: _, h => by simp [eqBL] at h
  | _ :: _, [], h => by simp [eqBL] at h
  | a :: l, b :: r, h => by
    simp only [eqBL] at h
    cases hb : Nat.beq a.toNat b.toNat with
    | false => simp [hb] at h
    | true =>
      simp only [hb, cond_true] at h
      have h1 : a.toNat = b.toNat := by simpa using hb
      rw [eqBL_eq h, UInt8.toNat_inj.1 h1]
def eqFn : Fn → Fn → Bool
  | .func a, .func b => Nat.beq a b
  | _, _ => false
mutual
/-- An entry's value, and the value that it is to stand for. -/
def matchV : Value → Value → List Nat → Option (List Nat)
  | .bool a, .bool b, A => bif a == b then some A else none
  | .int k a, .int k' b, A => bif kEq k k' && eqI a b then some A else none
  | .string s, .string t, A => bif eqBL s.data.toList t.data.toList then some A else none
  | .pointer none, .pointer none, A => some A
  | .pointer (some ⟨i, o, none⟩), .pointer (some ⟨b, o', none⟩), A => bif Nat.beq o o' then bindN A i b else none
  | .slice none 0 0, .slice none 0 0, A => some A
  | .slice (some ⟨i, o, none⟩) n c, .slice (some ⟨b, o', none⟩) n' c', A => bif Nat.beq o o' && Nat.beq n n' && Nat.beq c c' then bindN A i b else none
  | .map none, .map none, A => some A
  | .map (some i), .map (some b), A => bindN A i b
  | .func f ⟨a⟩ ⟨c⟩, .func f' ⟨a'⟩ ⟨c'⟩, A => bif eqFn f f' then (match matchL a a' A with
    | some A1 => matchL c c' A1
    | none => none) else none
  | .nilFunc, .nilFunc, A => some A
  | .iface t v, .iface t' v', A => bif Nat.beq t t' then matchV v v' A else none
  | .nilIface, .nilIface, A => some A
  | .agg ⟨l⟩, .agg ⟨l'⟩, A => matchL l l' A
  | .tuple ⟨l⟩, .tuple ⟨l'⟩, A => matchL l l' A
  | _, _, _ => none
def matchL : List Value → List Value → List Nat → Option (List Nat)
  | [], [], A => some A
  | v :: l, v' :: l', A => match matchV v v' A with
    | some A1 => matchL l l' A1
    | none => none
  | _, _, _ => none
end
mutual
/-- An entry's value, in the names of A. -/
def renV (A : List Nat) : Value → Option Value
  | .bool b => some (.bool b)
  | .int k n => some (.int k n)
  | .string s => some (.string s)
  | .pointer none => some (.pointer none)
  | .pointer (some ⟨i, o, none⟩) => match A[i]? with
    | some b => some (.pointer (some ⟨b, o, none⟩))
    | none => none
  | .slice none 0 0 => some (.slice none 0 0)
  | .slice (some ⟨i, o, none⟩) n c => match A[i]? with
    | some b => some (.slice (some ⟨b, o, none⟩) n c)
    | none => none
  | .map none => some (.map none)
  | .map (some i) => match A[i]? with
    | some b => some (.map (some b))
    | none => none
  | .func f ⟨a⟩ ⟨c⟩ => bif noYield f then (match renL A a, renL A c with
    | some a', some c' => some (.func f ⟨a'⟩ ⟨c'⟩)
    | _, _ => none) else none
  | .nilFunc => some .nilFunc
  | .iface t v => match renV A v with
    | some v' => some (.iface t v')
    | none => none
  | .nilIface => some .nilIface
  | .agg ⟨l⟩ => match renL A l with
    | some l' => some (.agg ⟨l'⟩)
    | none => none
  | .tuple ⟨l⟩ => match renL A l with
    | some l' => some (.tuple ⟨l'⟩)
    | none => none
  | _ => none
def renL (A : List Nat) : List Value → Option (List Value)
  | [] => some []
  | v :: l => match renV A v, renL A l with
    | some v', some l' => some (v' :: l')
    | _, _ => none
end

theorem match_main (n : Nat) : (∀ (v u : Value) (A A' : List Nat), SizeOf.sizeOf v ≤ n → matchV v u A = some A' → (∃ t, A' = A ++ t) ∧ (A.Nodup → A'.Nodup) ∧ ∀ m v', VR m u v' → VR (m.comp A') v v') ∧
    (∀ (l u : List Value) (A A' : List Nat), SizeOf.sizeOf l ≤ n → matchL l u A = some A' → (∃ t, A' = A ++ t) ∧ (A.Nodup → A'.Nodup) ∧ ∀ m l', VRs m u l' → VRs (m.comp A') l l') := by
  induction n with
  | zero => exact ⟨fun v u A A' h => by cases v <;> simp at h, fun l u A A' h => by cases l <;> simp at h⟩
  | succ n ih =>
    refine ⟨fun v u A A' hs h => ?_, fun l u A A' hs h => ?_⟩
    · have triv : ∀ {A A' : List Nat}, some A = some A' → (∃ t, A' = A ++ t) ∧ (A.Nodup → A'.Nodup) := fun h => by
        simp only [Option.some.injEq] at h; subst h; exact ⟨⟨[], by simp⟩, id⟩
      unfold matchV at h
      split at h
      · rename_i a b
        cases hb : (a == b) with
        | false => simp [hb] at h
        | true =>
          simp only [hb, cond_true] at h
          have : a = b := by simpa using hb
          subst this
          exact ⟨(triv h).1, (triv h).2, fun m v' hv => by cases hv; exact .bool _⟩
      · rename_i k a k' b
        cases hb : (kEq k k' && eqI a b) with
        | false => simp [hb] at h
        | true =>
          simp only [hb, cond_true] at h
          simp only [Bool.and_eq_true, eqI_eq, beq_iff_eq] at hb
          obtain ⟨hk, rfl⟩ := hb
          have := (kEq_iff k k').1 hk
          subst this
          exact ⟨(triv h).1, (triv h).2, fun m v' hv => by cases hv; exact .int _ _⟩
      · rename_i s t
        cases hb : eqBL s.data.toList t.data.toList with
        | false => simp [hb] at h
        | true =>
          simp only [hb, cond_true] at h
          have hst : s = t := by
            have := eqBL_eq hb
            cases s with
            | mk a => cases t with
              | mk b => congr 1; exact Array.ext' this
          subst hst
          exact ⟨(triv h).1, (triv h).2, fun m v' hv => by cases hv; exact .str _⟩
      · exact ⟨(triv h).1, (triv h).2, fun m v' hv => by cases hv; exact .ptr0⟩
      · rename_i i o b o'
        cases hb : Nat.beq o o' with
        | false => simp [hb] at h
        | true =>
          simp only [hb, cond_true] at h
          have : o = o' := by simpa using hb
          subst this
          obtain ⟨h1, h2, h3⟩ := bindN_spec h
          exact ⟨h1, h3, fun m v' hv => by
            cases hv with
            | ptr _ _ b' hb => exact .ptr _ _ _ (by rw [(Ren.comp_some h2).1]; exact hb)⟩
      · exact ⟨(triv h).1, (triv h).2, fun m v' hv => by cases hv; exact .sl0⟩
      · rename_i i o n1 c b o' n1' c'
        cases hb : (Nat.beq o o' && Nat.beq n1 n1' && Nat.beq c c') with
        | false => simp [hb] at h
        | true =>
          simp only [hb, cond_true] at h
          simp only [Bool.and_eq_true] at hb
          obtain ⟨⟨hb1, hb2⟩, hb3⟩ := hb
          have e1 : o = o' := by simpa using hb1
          have e2 : n1 = n1' := by simpa using hb2
          have e3 : c = c' := by simpa using hb3
          subst e1; subst e2; subst e3
          obtain ⟨h1, h2, h3⟩ := bindN_spec h
          refine ⟨h1, h3, fun m v' hv => ?_⟩
          generalize hcc : c = cc at hv
          cases hv with
          | sl _ _ _ _ b' hb h4 h5 => subst hcc; exact .sl _ _ _ _ _ (by rw [(Ren.comp_some h2).1]; exact hb) h4 h5
          | slu _ _ _ l b' hb h4 h5 =>
            subst hcc
            have hk := (Ren.comp_some (m := m) h2).2
            rw [← hk]
            exact .slu _ _ _ _ _ (by rw [(Ren.comp_some h2).1]; exact hb) (by rw [hk]; exact h4) h5
      · exact ⟨(triv h).1, (triv h).2, fun m v' hv => by cases hv; exact .map0⟩
      · obtain ⟨h1, h2, h3⟩ := bindN_spec h
        exact ⟨h1, h3, fun m v' hv => by
          cases hv with
          | map _ b' hb => exact .map _ _ (by rw [(Ren.comp_some h2).1]; exact hb)⟩
      · rename_i f a c f' a' c'
        cases hb : eqFn f f' with
        | false => simp [hb] at h
        | true =>
          simp only [hb, cond_true] at h
          have hff : f = f' ∧ noYield f = true := by
            cases f <;> cases f' <;> simp [eqFn] at hb
            rw [hb]; exact ⟨rfl, rfl⟩
          obtain ⟨rfl, hny⟩ := hff
          split at h <;> try (simp at h; done)
          rename_i A1 h1
          have hsz : SizeOf.sizeOf a ≤ n ∧ SizeOf.sizeOf c ≤ n := by simp at hs; omega
          obtain ⟨⟨t1, rfl⟩, n1, p1⟩ := ih.2 a a' A A1 hsz.1 h1
          obtain ⟨⟨t2, rfl⟩, n2, p2⟩ := ih.2 c c' _ A' hsz.2 h
          refine ⟨⟨t1 ++ t2, by simp⟩, fun hn => n2 (n1 hn), fun m v' hv => ?_⟩
          cases hv with
          | func _ _ g _ g' _ h3 h4 => exact .func _ _ _ _ _ hny ((p1 m _ h3).mono (Ren.comp_le m _ _)) (p2 m _ h4)
          | yld l l' hl => simp [noYield] at hny
      · exact ⟨(triv h).1, (triv h).2, fun m v' hv => by cases hv; exact .nilFunc⟩
      · rename_i t v t' v'
        cases hb : Nat.beq t t' with
        | false => simp [hb] at h
        | true =>
          simp only [hb, cond_true] at h
          have : t = t' := by simpa using hb
          subst this
          obtain ⟨h1, h2, h3⟩ := ih.1 v v' A A' (by simp at hs; omega) h
          exact ⟨h1, h2, fun m u' hv => by
            cases hv with
            | iface _ _ w' hw => exact .iface _ _ _ (h3 m _ hw)⟩
      · exact ⟨(triv h).1, (triv h).2, fun m v' hv => by cases hv; exact .nilIface⟩
      · rename_i l l'
        obtain ⟨h1, h2, h3⟩ := ih.2 l l' A A' (by simp at hs; omega) h
        exact ⟨h1, h2, fun m u' hv => by
          cases hv with
          | agg _ cs' hw => exact .agg _ _ (h3 m _ hw)⟩
      · rename_i l l'
        obtain ⟨h1, h2, h3⟩ := ih.2 l l' A A' (by simp at hs; omega) h
        exact ⟨h1, h2, fun m u' hv => by
          cases hv with
          | tuple _ cs' hw => exact .tuple _ _ (h3 m _ hw)⟩
      · simp at h
    · cases l with
      | nil =>
        cases u with
        | nil =>
          simp only [matchL, Option.some.injEq] at h; subst h
          exact ⟨⟨[], by simp⟩, id, fun m l' hl => by cases hl; exact .nil⟩
        | cons => simp [matchL] at h
      | cons v l =>
        cases u with
        | nil => simp [matchL] at h
        | cons v' u =>
          simp only [matchL] at h
          split at h <;> try (simp at h; done)
          rename_i A1 h1
          have hsz : SizeOf.sizeOf v ≤ n ∧ SizeOf.sizeOf l ≤ n := by simp at hs; omega
          obtain ⟨⟨t1, rfl⟩, n1, p1⟩ := ih.1 v v' A A1 hsz.1 h1
          obtain ⟨⟨t2, rfl⟩, n2, p2⟩ := ih.2 l u _ A' hsz.2 h
          refine ⟨⟨t1 ++ t2, by simp⟩, fun hn => n2 (n1 hn), fun m l' hl => ?_⟩
          cases hl with
          | cons _ _ _ _ h3 h4 => exact .cons _ _ _ _ ((p1 m _ h3).mono (Ren.comp_le m _ _)) (p2 m _ h4)
theorem matchV_spec {v u : Value} {A A' : List Nat} (h : matchV v u A = some A') : (∃ t, A' = A ++ t) ∧ (A.Nodup → A'.Nodup) ∧ ∀ m v', VR m u v' → VR (m.comp A') v v' := (match_main _).1 v u A A' (Nat.le_refl _) h
theorem matchL_spec {l u : List Value} {A A' : List Nat} (h : matchL l u A = some A') : (∃ t, A' = A ++ t) ∧ (A.Nodup → A'.Nodup) ∧ ∀ m l', VRs m u l' → VRs (m.comp A') l l' := (match_main _).2 l u A A' (Nat.le_refl _) h

theorem ren_main (n : Nat) (A : List Nat) : (∀ (v u : Value), SizeOf.sizeOf v ≤ n → renV A v = some u → ∀ m v', VR (m.comp A) v v' → VR m u v') ∧
    (∀ (l u : List Value), SizeOf.sizeOf l ≤ n → renL A l = some u → ∀ m l', VRs (m.comp A) l l' → VRs m u l') := by
  induction n with
  | zero => exact ⟨fun v u h => by cases v <;> simp at h, fun l u h => by cases l <;> simp at h⟩
  | succ n ih =>
    refine ⟨fun v u hs h m v' hv => ?_, fun l u hs h m l' hl => ?_⟩
    · cases hv with
      | bool b => simp only [renV, Option.some.injEq] at h; subst h; exact .bool _
      | int k x => simp only [renV, Option.some.injEq] at h; subst h; exact .int _ _
      | str s => simp only [renV, Option.some.injEq] at h; subst h; exact .str _
      | ptr0 => simp only [renV, Option.some.injEq] at h; subst h; exact .ptr0
      | ptr i o b' hb =>
        obtain ⟨b, h1, h2⟩ := Ren.comp_inv hb
        simp only [renV, h1, Option.some.injEq] at h; subst h
        exact .ptr _ _ _ h2
      | sl0 => simp only [renV, Option.some.injEq] at h; subst h; exact .sl0
      | sl i o n1 c b' hb h4 h5 =>
        obtain ⟨b, h1, h2⟩ := Ren.comp_inv hb
        simp only [renV, h1, Option.some.injEq] at h; subst h
        exact .sl _ _ _ _ _ h2 h4 h5
      | slu i o n1 l b' hb h4 h5 =>
        obtain ⟨b, h1, h2⟩ := Ren.comp_inv hb
        simp only [renV, h1, Option.some.injEq] at h; subst h
        rw [(Ren.comp_some h1).2] at h4 ⊢
        exact .slu _ _ _ _ _ h2 h4 h5
      | map0 => simp only [renV, Option.some.injEq] at h; subst h; exact .map0
      | map i b' hb =>
        obtain ⟨b, h1, h2⟩ := Ren.comp_inv hb
        simp only [renV, h1, Option.some.injEq] at h; subst h
        exact .map _ _ h2
      | func fn f f' c c' hy h1 h2 =>
        simp only [renV, hy, cond_true] at h
        split at h <;> try (simp at h; done)
        rename_i a1 c1 e1 e2
        simp only [Option.some.injEq] at h; subst h
        have hsz : SizeOf.sizeOf f ≤ n ∧ SizeOf.sizeOf c ≤ n := by simp at hs; omega
        exact .func _ _ _ _ _ hy (ih.2 f a1 hsz.1 e1 m _ h1) (ih.2 c c1 hsz.2 e2 m _ h2)
      | yld l l' hl => simp [renV, noYield] at h
      | nilFunc => simp only [renV, Option.some.injEq] at h; subst h; exact .nilFunc
      | iface t v v' hv =>
        simp only [renV] at h
        split at h <;> try (simp at h; done)
        rename_i u1 e1
        simp only [Option.some.injEq] at h; subst h
        exact .iface _ _ _ (ih.1 v u1 (by simp at hs; omega) e1 m _ hv)
      | nilIface => simp only [renV, Option.some.injEq] at h; subst h; exact .nilIface
      | agg cs cs' hc =>
        simp only [renV] at h
        split at h <;> try (simp at h; done)
        rename_i u1 e1
        simp only [Option.some.injEq] at h; subst h
        exact .agg _ _ (ih.2 cs u1 (by simp at hs; omega) e1 m _ hc)
      | tuple cs cs' hc =>
        simp only [renV] at h
        split at h <;> try (simp at h; done)
        rename_i u1 e1
        simp only [Option.some.injEq] at h; subst h
        exact .tuple _ _ (ih.2 cs u1 (by simp at hs; omega) e1 m _ hc)
    · cases hl with
      | nil => simp only [renL, Option.some.injEq] at h; subst h; exact .nil
      | cons v v' l l' hv hl =>
        simp only [renL] at h
        split at h <;> try (simp at h; done)
        rename_i v1 l1 e1 e2
        simp only [Option.some.injEq] at h; subst h
        have hsz : SizeOf.sizeOf v ≤ n ∧ SizeOf.sizeOf l ≤ n := by simp at hs; omega
        exact .cons _ _ _ _ (ih.1 v v1 hsz.1 e1 m _ hv) (ih.2 l l1 hsz.2 e2 m _ hl)
theorem renV_spec {A : List Nat} {v u : Value} (h : renV A v = some u) {m : Ren} {v' : Value} (hv : VR (m.comp A) v v') : VR m u v' := (ren_main _ A).1 v u (Nat.le_refl _) h m v' hv
theorem renL_spec {A : List Nat} {l u : List Value} (h : renL A l = some u) {m : Ren} {l' : List Value} (hl : VRs (m.comp A) l l') : VRs m u l' := (ren_main _ A).2 l u (Nat.le_refl _) h m l' hl
end Go.U
end

section
namespace Go.U
set_option autoImplicit false

/-- An entry: a function, its arguments, what they reach (blocks 0, 1, ..); what comes back, and what new blocks that reaches. A grown row is of the group of its own number. -/
structure Ent where
  f : FuncId
  args : List Value
  hs : List AO
  v : Value
  new : List AO
def matchB (i b : Nat) (o ob : AO) (H : AH) (A gs : List Nat) : Option (List Nat × List Nat) := match o, ob with
  | .cells cs T none, .cells cs' T' none => bif Nat.beq T T' then (match matchL cs cs' A with
    | some A1 => some (A1, gs)
    | none => none) else none
  | .cells cs T (some j), .cells cs' T' (some g) => bif Nat.beq j i && Nat.beq T T' && !memN g gs then (match H.gs.get g with
    | some (_, kill) => bif Nat.blt b kill then none else (match matchL cs cs' A with
      | some A1 => some (A1, g :: gs)
      | none => none)
    | none => none) else none
  | .map es, .map es' => match matchL (es.map (·.1)) (es'.map (·.1)) A with
    | some A1 => (match matchL (es.map (·.2)) (es'.map (·.2)) A1 with
      | some A2 => some (A2, gs)
      | none => none)
    | none => none
  | _, _ => none
def matchO (H : AH) : List AO → Nat → List Nat → List Nat → Option (List Nat)
  | [], i, A, _ => bif Nat.beq i A.length then some A else none
  | o :: l, i, A, gs => match A[i]? with
    | none => none
    | some b => match H.get b with
      | none => none
      | some ob => match matchB i b o ob H A gs with
        | some (A1, gs1) => matchO H l (i + 1) A1 gs1
        | none => none
/-- What an object stands for, come what may. -/
inductive OU (m : Ren) (sz : TypeId → Nat) (b : Nat) : AO → Obj → Prop
  | cells (cs : List Value) (T : TypeId) (cs' : Array Value) : VRs m cs cs'.toList → OU m sz b (.cells cs T none) (.cells cs' T (0, 0))
  | row (cs : List Value) (T : TypeId) (g : Nat) (cs' : Array Value) : cs'.size = m.κ b * sz T → cs.length ≤ cs'.size → VRs m cs (cs'.toList.take cs.length) → OU m sz b (.cells cs T (some g)) (.cells cs' T (0, 0))
  | map (es : List (Value × Value)) (es' : Array MapEntry) (clock : Nat) : VRs m (es.map (·.1)) (es'.toList.map (·.key)) → VRs m (es.map (·.2)) (es'.toList.map (·.val)) → OU m sz b (.map es) (.map es' clock)
theorem OU.orel {K : KK} {m : Ren} {gs : Tr (Nat × Nat)} {sz : TypeId → Nat} {b : Nat} {o : AO} {o' : Obj} (h : OU m sz b o o') : ORel K m gs sz b o o' := by
  cases h with
  | cells cs T cs' h1 => exact .cells _ _ _ h1
  | row cs T g cs' h1 h2 h3 => exact .row _ _ _ _ h1 h2 fun _ _ _ _ => h3
  | map es es' cl h1 h2 => exact .map _ _ _ h1 h2
theorem OU.mono {m m' : Ren} (hm : m.Le m') {sz : TypeId → Nat} {b x : Nat} (hb : m.ρ b = some x) {o : AO} {o' : Obj} (h : OU m sz b o o') : OU m' sz b o o' := by
  cases h with
  | cells cs T cs' h1 => exact .cells _ _ _ (h1.mono hm)
  | row cs T g cs' h1 h2 h3 => exact .row _ _ _ _ (by rw [hm.κ _ _ hb]; exact h1) h2 (h3.mono hm)
  | map es es' cl h1 h2 => exact .map _ _ _ (h1.mono hm) (h2.mono hm)
def grpOf : AO → Option Nat
  | .cells _ _ g => g
  | _ => none
theorem matchB_spec {i b : Nat} {o ob : AO} {H : AH} {A gs A' gs' : List Nat} (h : matchB i b o ob H A gs = some (A', gs')) (hb : A[i]? = some b) :
    (∃ t, A' = A ++ t) ∧ (A.Nodup → A'.Nodup) ∧ (∀ (K : KK) m sz o', ORel K m H.gs sz b ob o' → OU (m.comp A') sz i o o') ∧ (∀ g, g ∈ gs → g ∈ gs') ∧
      (∀ j, grpOf o = some j → j = i) ∧ (∀ g, grpOf ob = some g → g ∉ gs ∧ g ∈ gs') := by
  unfold matchB at h
  split at h
  · rename_i cs T cs' T'
    cases hT : Nat.beq T T' with
    | false => simp [hT] at h
    | true =>
      have hT' : T = T' := by simpa using hT
      subst hT'
      simp only [hT, cond_true] at h
      split at h <;> try (simp at h; done)
      rename_i A1 h1
      simp only [Option.some.injEq, Prod.mk.injEq] at h; obtain ⟨rfl, rfl⟩ := h
      obtain ⟨p1, p2, p3⟩ := matchL_spec h1
      refine ⟨p1, p2, fun K m sz o' ho => ?_, fun _ h => h, by simp [grpOf], by simp [grpOf]⟩
      cases ho with
      | cells _ _ cs2 hv => exact .cells _ _ _ (p3 m _ hv)
  · rename_i cs T j cs' T' g
    cases hT : (Nat.beq j i && Nat.beq T T' && !memN g gs) with
    | false => simp [hT] at h
    | true =>
      simp only [hT, cond_true] at h
      simp only [Bool.and_eq_true, Bool.not_eq_true'] at hT
      obtain ⟨⟨t1, t2⟩, t3⟩ := hT
      have hj : j = i := by simpa using t1
      have hT' : T = T' := by simpa using t2
      have hg : g ∉ gs := fun hm => by rw [(memN_iff g gs).2 hm] at t3; simp at t3
      subst hT'
      subst hj
      split at h <;> try (simp at h; done)
      rename_i tip kill hgs
      cases hk : Nat.blt b kill with
      | true => simp [hk] at h
      | false =>
        simp only [hk, cond_false] at h
        split at h <;> try (simp at h; done)
        rename_i A1 h1
        simp only [Option.some.injEq, Prod.mk.injEq] at h; obtain ⟨rfl, rfl⟩ := h
        obtain ⟨p1, p2, p3⟩ := matchL_spec h1
        refine ⟨p1, p2, fun K m sz o' ho => ?_, fun _ h => by simp [h], fun j' h => by simp [grpOf] at h; exact h.symm, fun g' h => by simp [grpOf] at h; subst h; exact ⟨hg, by simp⟩⟩
        cases ho with
        | row _ _ _ cs2 h2 h3 h4 =>
          obtain ⟨t, rfl⟩ := p1
          have hb' : (A ++ t)[j]? = some b := by rw [List.getElem?_append_left (List.getElem?_eq_some_iff.1 hb).1]; exact hb
          have hlen : cs.length = cs'.length := by
            have hv := p3 m _ (h4 _ _ hgs hk)
            have e1 := hv.length
            have e2 := (h4 _ _ hgs hk).length
            omega
          exact .row _ _ _ _ (by rw [(Ren.comp_some hb').2]; exact h2) (by omega) (by rw [hlen]; exact p3 m _ (h4 _ _ hgs hk))
  · rename_i es es'
    split at h <;> try (simp at h; done)
    rename_i A1 h1
    split at h <;> try (simp at h; done)
    rename_i A2 h2
    simp only [Option.some.injEq, Prod.mk.injEq] at h; obtain ⟨rfl, rfl⟩ := h
    obtain ⟨⟨s1, rfl⟩, p2, p3⟩ := matchL_spec h1
    obtain ⟨⟨s2, rfl⟩, q2, q3⟩ := matchL_spec h2
    refine ⟨⟨s1 ++ s2, by simp⟩, fun hn => q2 (p2 hn), fun K m sz o' ho => ?_, fun _ h => h, by simp [grpOf], by simp [grpOf]⟩
    cases ho with
    | map _ es2 cl h3 h4 => exact .map _ _ _ ((p3 m _ h3).mono (Ren.comp_le m _ _)) (q3 m _ h4)
  · simp at h
theorem OU.more {m : Ren} {A t : List Nat} {sz : TypeId → Nat} {i b : Nat} (hb : A[i]? = some b) {o : AO} {o' : Obj} (h : OU (m.comp A) sz i o o') : OU (m.comp (A ++ t)) sz i o o' := by
  have hle := Ren.comp_le m A t
  have hb' : (A ++ t)[i]? = some b := by rw [List.getElem?_append_left (List.getElem?_eq_some_iff.1 hb).1]; exact hb
  cases h with
  | cells cs T cs' h1 => exact .cells _ _ _ (h1.mono hle)
  | row cs T g cs' h1 h2 h3 => exact .row _ _ _ _ (by rw [(Ren.comp_some hb').2]; rw [(Ren.comp_some hb).2] at h1; exact h1) h2 (h3.mono hle)
  | map es es' cl h1 h2 => exact .map _ _ _ (h1.mono hle) (h2.mono hle)
theorem matchO_spec (H : AH) : ∀ (l : List AO) (i : Nat) (A gs A' : List Nat), matchO H l i A gs = some A' →
    (∃ t, A' = A ++ t) ∧ (A.Nodup → A'.Nodup) ∧ A'.length = i + l.length ∧
      (∀ j o, l[j]? = some o → ∃ b ob, A'[i + j]? = some b ∧ H.get b = some ob ∧ (∀ (K : KK) m sz o', ORel K m H.gs sz b ob o' → OU (m.comp A') sz (i + j) o o') ∧ (∀ g, grpOf o = some g → g = i + j) ∧ (∀ g, grpOf ob = some g → g ∉ gs)) ∧
      (∀ j1 j2 b1 b2 ob1 ob2 g, j1 < l.length → j2 < l.length → A'[i + j1]? = some b1 → A'[i + j2]? = some b2 → H.get b1 = some ob1 → H.get b2 = some ob2 → grpOf ob1 = some g → grpOf ob2 = some g → j1 = j2)
  | [], i, A, gs, A', h => by
    simp only [matchO] at h
    cases hb : Nat.beq i A.length with
    | false => simp [hb] at h
    | true =>
      simp only [hb, cond_true, Option.some.injEq] at h; subst h
      have : i = A.length := by simpa using hb
      exact ⟨⟨[], by simp⟩, id, by simp [this], fun j o h => by simp at h, fun j1 j2 b1 b2 ob1 ob2 g h => by simp at h⟩
  | o :: l, i, A, gs, A', h => by
    simp only [matchO] at h
    split at h <;> try (simp at h; done)
    rename_i b hb
    split at h <;> try (simp at h; done)
    rename_i ob hob
    split at h <;> try (simp at h; done)
    rename_i A1 gs1 h1
    obtain ⟨⟨t1, rfl⟩, p2, p3, p4, p5, p6⟩ := matchB_spec h1 hb
    obtain ⟨⟨t2, rfl⟩, q2, q3, q4, q5⟩ := matchO_spec H l (i + 1) _ gs1 A' h
    have hb1 : (A ++ t1)[i]? = some b := by rw [List.getElem?_append_left (List.getElem?_eq_some_iff.1 hb).1]; exact hb
    have hb2 : (A ++ t1 ++ t2)[i]? = some b := by rw [List.getElem?_append_left (List.getElem?_eq_some_iff.1 hb1).1]; exact hb1
    refine ⟨⟨t1 ++ t2, by simp⟩, fun hn => q2 (p2 hn), by simp only [List.length_cons]; omega, ?_, ?_⟩
    · intro j o' ho'
      cases j with
      | zero =>
        simp at ho'; subst ho'
        exact ⟨b, ob, hb2, hob, fun K m sz oo hoo => (p3 K m sz oo hoo).more hb1, p5, fun g hg => (p6 g hg).1⟩
      | succ j =>
        obtain ⟨b', ob', r1, r2, r3, r4, r5⟩ := q4 j o' (by simpa using ho')
        have e : i + 1 + j = i + (j + 1) := by omega
        rw [e] at r1 r4
        refine ⟨b', ob', r1, r2, fun K m sz oo hoo => by have := r3 K m sz oo hoo; rwa [e] at this, r4, fun g hg hm => r5 g hg (p4 g hm)⟩
    · intro j1 j2 b1 b2 ob1 ob2 g hj1 hj2 hA1 hA2 hg1 hg2 hr1 hr2
      simp only [List.length_cons] at hj1 hj2
      have first : ∀ j b' ob', 0 < j → j < l.length + 1 → (A ++ t1 ++ t2)[i + j]? = some b' → H.get b' = some ob' → grpOf ob' = some g → grpOf ob = some g → False := by
        intro j b' ob' hj0 hjl hA hg hr hr0
        obtain ⟨j', rfl⟩ : ∃ j', j = j' + 1 := ⟨j - 1, by omega⟩
        obtain ⟨oj, hoj⟩ : ∃ oj, l[j']? = some oj := ⟨l[j']'(by omega), by simp⟩
        obtain ⟨b'', ob'', r1, r2, _, _, r5⟩ := q4 j' oj hoj
        have e : i + 1 + j' = i + (j' + 1) := by omega
        rw [e, hA] at r1
        simp only [Option.some.injEq] at r1; subst r1
        rw [hg] at r2
        simp only [Option.some.injEq] at r2; subst r2
        exact r5 g hr (p6 g hr0).2
      cases j1 with
      | zero =>
        simp only [Nat.add_zero] at hA1
        rw [hb2] at hA1; simp only [Option.some.injEq] at hA1; subst hA1
        rw [hob] at hg1; simp only [Option.some.injEq] at hg1; subst hg1
        cases j2 with
        | zero => rfl
        | succ j2 => exact (first _ b2 ob2 (by omega) hj2 hA2 hg2 hr2 hr1).elim
      | succ j1 =>
        cases j2 with
        | zero =>
          simp only [Nat.add_zero] at hA2
          rw [hb2] at hA2; simp only [Option.some.injEq] at hA2; subst hA2
          rw [hob] at hg2; simp only [Option.some.injEq] at hg2; subst hg2
          exact (first _ b1 ob1 (by omega) hj1 hA1 hg1 hr1 hr2).elim
        | succ j2 =>
          have e1 : i + 1 + j1 = i + (j1 + 1) := by omega
          have e2 : i + 1 + j2 = i + (j2 + 1) := by omega
          have := q5 j1 j2 b1 b2 ob1 ob2 g (by omega) (by omega) (by rw [e1]; exact hA1) (by rw [e2]; exact hA2) hg1 hg2 hr1 hr2
          omega

/-! ### the small heap -/
def mkT : List AO → Nat → Tr AO → Tr AO
  | [], _, t => t
  | o :: l, i, t => mkT l (i + 1) (t.set (i + 1) i o)
def mkG : List AO → Nat → Tr (Nat × Nat) → Tr (Nat × Nat)
  | [], _, t => t
  | .cells _ _ (some _) :: l, i, t => mkG l (i + 1) (t.set (i + 1) i (i, 0))
  | _ :: l, i, t => mkG l (i + 1) t
def mkH (hs : List AO) : AH := ⟨mkT hs 0 .lf, mkG hs 0 .lf, hs.length, BIG⟩
theorem mkT_get : ∀ (l : List AO) (i : Nat) (t : Tr AO) (b : Nat), (mkT l i t).get b = if i ≤ b ∧ b < i + l.length then l[b - i]? else t.get b
  | [], i, t, b => by
    have : ¬ (i ≤ b ∧ b < i + ([] : List AO).length) := by simp
    rw [if_neg this]; rfl
  | o :: l, i, t, b => by
    rw [mkT, mkT_get l (i + 1)]
    by_cases h : i = b
    · subst h
      have h1 : ¬ (i + 1 ≤ i ∧ i < i + 1 + l.length) := by omega
      have h2 : i ≤ i ∧ i < i + (o :: l).length := by simp
      rw [if_neg h1, if_pos h2, Tr.get_set_self]
      simp
    · rw [Tr.get_set_other _ _ _ _ _ h]
      by_cases h1 : i + 1 ≤ b ∧ b < i + 1 + l.length
      · have h2 : i ≤ b ∧ b < i + (o :: l).length := by simp only [List.length_cons]; omega
        rw [if_pos h1, if_pos h2]
        have : b - i = (b - (i + 1)) + 1 := by omega
        rw [this]; simp
      · have h2 : ¬ (i ≤ b ∧ b < i + (o :: l).length) := by simp only [List.length_cons]; omega
        rw [if_neg h1, if_neg h2]
theorem mkG_get : ∀ (l : List AO) (i : Nat) (t : Tr (Nat × Nat)) (j : Nat) (cs : List Value) (T : TypeId) (g : Nat), l[j]? = some (.cells cs T (some g)) → (mkG l i t).get (i + j) = some (i + j, 0)
  | [], i, t, j, cs, T, g, h => by simp at h
  | o :: l, i, t, j, cs, T, g, h => by
    have hkeep : ∀ (l : List AO) (i : Nat) (t : Tr (Nat × Nat)) (b : Nat), b < i → (mkG l i t).get b = t.get b := by
      intro l
      induction l with
      | nil => intro i t b _; rfl
      | cons o l ih =>
        intro i t b hb
        unfold mkG
        split
        · rename_i heq; simp at heq
        · rename_i heq
          simp only [List.cons.injEq] at heq
          obtain ⟨_, rfl⟩ := heq
          rw [ih _ _ _ (by omega), Tr.get_set_other _ _ _ _ _ (by omega)]
        · rename_i heq
          simp only [List.cons.injEq] at heq
          obtain ⟨_, rfl⟩ := heq
          exact ih _ _ _ (by omega)
    cases j with
    | zero =>
      simp at h; subst h
      simp only [mkG, Nat.add_zero]
      rw [hkeep _ _ _ _ (by omega), Tr.get_set_self]
    | succ j =>
      have h' : l[j]? = some (.cells cs T (some g)) := by simpa using h
      have e : i + (j + 1) = i + 1 + j := by omega
      rw [e]
      unfold mkG
      split
      · rename_i heq; simp at heq
      · rename_i heq
        simp only [List.cons.injEq] at heq
        obtain ⟨_, rfl⟩ := heq
        exact mkG_get _ _ _ j cs T g h'
      · rename_i heq
        simp only [List.cons.injEq] at heq
        obtain ⟨_, rfl⟩ := heq
        exact mkG_get _ _ _ j cs T g h'
theorem mkH_get (hs : List AO) (b : Nat) : (mkH hs).get b = hs[b]? := by
  show (mkT hs 0 .lf).get b = hs[b]?
  rw [mkT_get]
  by_cases h : 0 ≤ b ∧ b < 0 + hs.length
  · rw [if_pos h]; simp
  · rw [if_neg h, List.getElem?_eq_none (by omega)]; rfl

/-! ### new blocks are laid -/
def renO (A : List Nat) (b : Nat) : AO → Option (AO × Bool)
  | .cells cs T none => match renL A cs with
    | some cs' => some (.cells cs' T none, false)
    | none => none
  | .cells cs T (some _) => match renL A cs with
    | some cs' => some (.cells cs' T (some b), true)
    | none => none
  | .map es => match renL A (es.map (·.1)), renL A (es.map (·.2)) with
    | some ks, some vs => bif Nat.beq ks.length vs.length then some (.map (ks.zip vs), false) else none
    | _, _ => none
  | _ => none
def pushAll (A : List Nat) : List AO → AH → Option AH
  | [], H => some H
  | o :: l, H => match renO A H.next o with
    | some (o', true) => pushAll A l { H.push o' with gs := H.gs.set (H.next + 1) H.next (H.next, 0) }
    | some (o', false) => pushAll A l (H.push o')
    | none => none
theorem renL_length {A : List Nat} : ∀ {l u : List Value}, renL A l = some u → u.length = l.length
  | [], u, h => by simp only [renL, Option.some.injEq] at h; subst h; rfl
  | v :: l, u, h => by
    simp only [renL] at h
    split at h <;> try (simp at h; done)
    rename_i v1 l1 e1 e2
    simp only [Option.some.injEq] at h; subst h
    simp [renL_length e2]
theorem renO_spec {A : List Nat} {i b : Nat} {o o2 : AO} {gr : Bool} (h : renO A b o = some (o2, gr)) (hb : A[i]? = some b) :
    (∀ m sz o', OU (m.comp A) sz i o o' → OU m sz b o2 o') ∧ (gr = true → ∃ cs T, o2 = .cells cs T (some b)) ∧ (gr = false → ∀ cs T g, o2 ≠ .cells cs T (some g)) := by
  unfold renO at h
  split at h
  · split at h <;> try (simp at h; done)
    rename_i cs' hr
    simp only [Option.some.injEq, Prod.mk.injEq] at h; obtain ⟨rfl, rfl⟩ := h
    refine ⟨fun m sz o' ho => ?_, by simp, by simp⟩
    cases ho with
    | cells _ _ c2 h1 => exact .cells _ _ _ (renL_spec hr h1)
  · split at h <;> try (simp at h; done)
    rename_i cs' hr
    simp only [Option.some.injEq, Prod.mk.injEq] at h; obtain ⟨rfl, rfl⟩ := h
    refine ⟨fun m sz o' ho => ?_, fun _ => ⟨_, _, rfl⟩, by simp⟩
    cases ho with
    | row _ _ _ c2 h1 h2 h3 =>
      have hl := renL_length hr
      exact .row _ _ _ _ (by rw [(Ren.comp_some hb).2] at h1; exact h1) (by rw [hl]; exact h2) (by rw [hl]; exact renL_spec hr h3)
  · split at h <;> try (simp at h; done)
    rename_i es ks vs h1 h2
    cases hl : Nat.beq ks.length vs.length with
    | false => simp [hl] at h
    | true =>
      simp only [hl, cond_true, Option.some.injEq, Prod.mk.injEq] at h; obtain ⟨rfl, rfl⟩ := h
      have hl' : ks.length = vs.length := by simpa using hl
      refine ⟨fun m sz o' ho => ?_, by simp, by simp⟩
      cases ho with
      | map _ es2 cl h3 h4 =>
        have e1 : (ks.zip vs).map (·.1) = ks := List.map_fst_zip (by omega)
        have e2 : (ks.zip vs).map (·.2) = vs := List.map_snd_zip (by omega)
        exact .map _ _ _ (by rw [e1]; exact renL_spec h1 h3) (by rw [e2]; exact renL_spec h2 h4)
  · simp at h
theorem pushAll_spec (A : List Nat) : ∀ (l : List AO) (H H1 : AH), pushAll A l H = some H1 →
    H1.next = H.next + l.length ∧ H1.low = H.low ∧ (∀ b, b < H.next → H1.get b = H.get b ∧ H1.gs.get b = H.gs.get b) ∧
      ∀ j o, l[j]? = some o → ∃ o2 gr, renO A (H.next + j) o = some (o2, gr) ∧ H1.get (H.next + j) = some o2 ∧ (gr = true → H1.gs.get (H.next + j) = some (H.next + j, 0))
  | [], H, H1, h => by
    simp only [pushAll, Option.some.injEq] at h; subst h
    exact ⟨rfl, rfl, fun _ _ => ⟨rfl, rfl⟩, fun j o h => by simp at h⟩
  | o :: l, H, H1, h => by
    simp only [pushAll] at h
    have fin : ∀ (H2 : AH) (o2 : AO) (gr : Bool), renO A H.next o = some (o2, gr) → H2.next = H.next + 1 → H2.low = H.low → H2.get H.next = some o2 → (∀ b, b < H.next → H2.get b = H.get b ∧ H2.gs.get b = H.gs.get b) →
        (gr = true → H2.gs.get H.next = some (H.next, 0)) → pushAll A l H2 = some H1 →
        H1.next = H.next + (o :: l).length ∧ H1.low = H.low ∧ (∀ b, b < H.next → H1.get b = H.get b ∧ H1.gs.get b = H.gs.get b) ∧
        ∀ j o', (o :: l)[j]? = some o' → ∃ o2 gr, renO A (H.next + j) o' = some (o2, gr) ∧ H1.get (H.next + j) = some o2 ∧ (gr = true → H1.gs.get (H.next + j) = some (H.next + j, 0)) := by
      intro H2 o2 gr hr hn hl hg hk hgr h2
      obtain ⟨p1, p2, p3, p4⟩ := pushAll_spec A l H2 H1 h2
      rw [hn] at p1 p3
      refine ⟨by simp only [List.length_cons]; omega, p2.trans hl, fun b hb => ?_, fun j o' ho' => ?_⟩
      · have h1 := p3 b (by omega)
        have h2 := hk b hb
        exact ⟨h1.1.trans h2.1, h1.2.trans h2.2⟩
      · cases j with
        | zero =>
          simp at ho'; subst ho'
          have h1 := p3 H.next (by omega)
          exact ⟨o2, gr, hr, h1.1.trans hg, fun h => h1.2.trans (hgr h)⟩
        | succ j =>
          obtain ⟨o3, gr3, r1, r2, r3⟩ := p4 j o' (by simpa using ho')
          rw [hn] at r1 r2 r3
          have e : H.next + 1 + j = H.next + (j + 1) := by omega
          rw [e] at r1 r2 r3
          exact ⟨o3, gr3, r1, r2, r3⟩
    split at h
    · rename_i o2 hr
      exact fin { H.push o2 with gs := H.gs.set (H.next + 1) H.next (H.next, 0) } o2 true hr rfl rfl (get_push_same H o2) (fun b hb => ⟨get_push_other H b o2 (Nat.ne_of_lt hb), Tr.get_set_other _ _ _ _ _ (Nat.ne_of_gt hb)⟩) (fun _ => Tr.get_set_self _ _ _) h
    · rename_i o2 hr
      exact fin (H.push o2) o2 false hr rfl rfl (get_push_same H o2) (fun b hb => ⟨get_push_other H b o2 (Nat.ne_of_lt hb), rfl⟩) (by simp) h
    · simp at h

def upto (n : Nat) : Nat → List Nat
  | 0 => []
  | k + 1 => n :: upto (n + 1) k
theorem upto_get : ∀ (k n j : Nat), (upto n k)[j]? = if j < k then some (n + j) else none
  | 0, n, j => by simp [upto]
  | k + 1, n, 0 => by simp [upto]
  | k + 1, n, j + 1 => by
    simp only [upto, List.getElem?_cons_succ, upto_get k]
    by_cases h : j < k
    · simp [h]; omega
    · simp [h]
theorem upto_length : ∀ (k n : Nat), (upto n k).length = k
  | 0, _ => rfl
  | k + 1, n => by simp [upto, upto_length k]
/-- An entry is used. -/
def applyE (x : Ent) (args : List Value) (H : AH) : Option (Value × AH) := match matchL x.args args [] with
  | none => none
  | some A => match matchO H x.hs 0 A [] with
    | none => none
    | some A1 => match renV (A1 ++ upto H.next x.new.length) x.v, pushAll (A1 ++ upto H.next x.new.length) x.new H with
      | some v, some H1 => some (v, H1)
      | _, _ => none
/-- Is an entry right? -/
def chkE (r : Rec) (x : Ent) : Bool := match r.call x.f x.args (mkH x.hs) with
  | some (.ret v0, H1) => Nat.ble x.hs.length H1.low && (match matchV x.v v0 (upto 0 x.hs.length) with
    | some A => (match matchO H1 x.new x.hs.length A [] with
      | some _ => true
      | none => false)
    | none => false)
  | _ => false
end Go.U
end

section
namespace Go.U
set_option autoImplicit false

theorem upto_mem : ∀ (k n x : Nat), x ∈ upto n k → n ≤ x
  | 0, n, x, h => by simp [upto] at h
  | k + 1, n, x, h => by
    rcases List.mem_cons.1 h with rfl | h
    · exact Nat.le_refl _
    · have := upto_mem k (n + 1) x h; omega
theorem upto_nodup : ∀ (k n : Nat), (upto n k).Nodup
  | 0, n => List.nodup_nil
  | k + 1, n => List.nodup_cons.2 ⟨fun h => by have := upto_mem k (n + 1) n h; omega, upto_nodup k (n + 1)⟩
section
variable {K : KK} {P : Program} {m : Ren} {H : AH} {w : World}

/-- What lies stands for the small heap, under the names that were matched. -/
theorem small_rel (hR : Rel K P m H w) {hs : List AO} {A A0 : List Nat} (hA0 : A0.Nodup) (h : matchO H hs 0 A0 [] = some A) : Rel K P (m.comp A) (mkH hs) w := by
  obtain ⟨_, hn, hlen, hspec, hgrp⟩ := matchO_spec H hs 0 A0 [] A h
  have hnd := hn hA0
  have hl : A.length = hs.length := by omega
  have hspec' : ∀ i b, A[i]? = some b → ∃ o ob, hs[i]? = some o ∧ H.get b = some ob ∧ (∀ (K : KK) m sz o', ORel K m H.gs sz b ob o' → OU (m.comp A) sz i o o') ∧ (∀ g, grpOf o = some g → g = i) := by
    intro i b hb
    have hi : i < hs.length := by have := (List.getElem?_eq_some_iff.1 hb).1; omega
    obtain ⟨o, ho⟩ : ∃ o, hs[i]? = some o := ⟨hs[i], by simp [hi]⟩
    obtain ⟨b', ob, h1, h2, h3, h4, _⟩ := hspec i o ho
    simp only [Nat.zero_add] at h1 h3 h4
    rw [hb] at h1; simp only [Option.some.injEq] at h1; subst h1
    exact ⟨o, ob, ho, h2, h3, h4⟩
  have hrows : ∀ i cs T g, hs[i]? = some (.cells cs T (some g)) → g = i ∧ (mkH hs).gs.get i = some (i, 0) := by
    intro i cs T g ho
    have hi : i < A.length := by have := (List.getElem?_eq_some_iff.1 ho).1; omega
    obtain ⟨o, ob, h1, _, _, h4⟩ := hspec' i A[i] (by simp [hi])
    rw [ho] at h1; simp only [Option.some.injEq] at h1; subst h1
    refine ⟨h4 g rfl, ?_⟩
    have := mkG_get hs 0 .lf i cs T g ho
    show (mkG hs 0 .lf).get i = _
    simpa using this
  refine ⟨?_, ?_, ?_, ?_, ?_, ?_, ?_, hR.gl, hR.bsz, hR.ob⟩
  · intro i x hx
    obtain ⟨b, h1, _⟩ := Ren.comp_inv hx
    show i < hs.length
    have := (List.getElem?_eq_some_iff.1 h1).1
    omega
  · intro i x o hx ho
    obtain ⟨b, h1, h2⟩ := Ren.comp_inv hx
    rw [mkH_get] at ho
    obtain ⟨o2, ob, h3, h4, h5, _⟩ := hspec' i b h1
    rw [ho] at h3; simp only [Option.some.injEq] at h3; subst h3
    obtain ⟨o', h6, h7⟩ := hR.obj b x ob h2 h4
    exact ⟨o', h6, (h5 K m _ o' h7).orel⟩
  · intro i j x hi hj
    obtain ⟨b, h1, h2⟩ := Ren.comp_inv hi
    obtain ⟨c, h3, h4⟩ := Ren.comp_inv hj
    left
    rcases hR.inj b c x h2 h4 with rfl | ⟨g, cs, T, cs', T', h5, h6⟩
    · have h7 := (List.getElem?_eq_some_iff.1 h1).1
      have h8 := (List.getElem?_eq_some_iff.1 h3).1
      exact (List.getElem?_inj h7 hnd).1 (h1.trans h3.symm)
    · have h7 := (List.getElem?_eq_some_iff.1 h1).1
      have h8 := (List.getElem?_eq_some_iff.1 h3).1
      exact hgrp i j b c _ _ g (by omega) (by omega) (by simpa using h1) (by simpa using h3) h5 h6 rfl rfl
  · intro i x hx
    obtain ⟨b, _, h2⟩ := Ren.comp_inv hx
    exact hR.bnd b x h2
  · intro i x cs T g tip kill hx ho hg hk
    rw [mkH_get] at ho
    obtain ⟨rfl, h2⟩ := hrows i cs T g ho
    rw [h2] at hg
    simp only [Option.some.injEq, Prod.mk.injEq] at hg; obtain ⟨rfl, rfl⟩ := hg
    refine ⟨Nat.le_refl _, (List.getElem?_eq_some_iff.1 ho).1, fun o2 ho2 => ?_⟩
    rw [mkH_get, ho] at ho2
    simp only [Option.some.injEq] at ho2
    exact ⟨cs, ho2.symm, Nat.le_refl _⟩
  · intro i x cs T g hx ho
    rw [mkH_get] at ho
    obtain ⟨rfl, _⟩ := hrows i cs T g ho
    exact (List.getElem?_eq_some_iff.1 ho).1
  · intro i x hx
    obtain ⟨b, h1, h2⟩ := Ren.comp_inv hx
    obtain ⟨o, ob, _, k2, _⟩ := hspec' i b h1
    exact .inl (hR.baseS h2 k2)

/-- The names behind an entry's use. -/
def Ren.behind (m m1 : Ren) (n k : Nat) (A : List Nat) : Ren := ⟨fun b => if b < n then m.ρ b else (m1.comp A).ρ (k + (b - n)), fun b => if b < n then m.κ b else (m1.comp A).κ (k + (b - n))⟩

theorem ent_sound {E : Env} {n : Nat} (hS : RecS K P (ev E n)) {x : Ent} (hchk : chkE (ev E n) x = true) {args : List Value} {v : Value} {H1 : AH} (h : applyE x args H = some (v, H1)) :
    QSt H H1 ∧ ∀ (m : Ren) (w : World) (args' : Array Value), Rel K P m H w → VRs m args args'.toList → CallF P x.f args' w (CallQ K P m H w H1 (.ret v) true) := by
  simp only [applyE] at h
  split at h
  · simp at h
  · rename_i A0 hA0
    split at h
    · simp at h
    · rename_i A hA
      split at h <;> try (simp at h; done)
      rename_i v1 H2 hv hp
      simp only [Option.some.injEq, Prod.mk.injEq] at h; obtain ⟨rfl, rfl⟩ := h
      obtain ⟨p1, p2, p3, p4⟩ := pushAll_spec _ _ _ _ hp
      refine ⟨⟨by omega, p2, p3⟩, fun m w args' hR ha => ?_⟩
      -- the arguments
      obtain ⟨_, hnd0, hargs⟩ := matchL_spec hA0
      have hA0n := hnd0 List.nodup_nil
      obtain ⟨⟨t0, rfl⟩, hnd, hlen, hspec, _⟩ := matchO_spec H x.hs 0 A0 [] A hA
      have hAn := hnd hA0n
      have hAl : (A0 ++ t0).length = x.hs.length := by omega
      have hRs := small_rel hR hA0n hA
      have has : VRs (m.comp (A0 ++ t0)) x.args args'.toList := (hargs m _ ha).mono (Ren.comp_le m _ _)
      -- the run on the small heap
      simp only [chkE] at hchk
      split at hchk <;> try (simp at hchk; done)
      rename_i v0 Hs1 hrun
      simp only [Bool.and_eq_true] at hchk
      obtain ⟨hlow, hchk⟩ := hchk
      have hlow' : x.hs.length ≤ Hs1.low := by simpa using hlow
      split at hchk <;> try (simp at hchk; done)
      rename_i R0 hR0
      split at hchk <;> try (simp at hchk; done)
      rename_i R hRr
      obtain ⟨⟨s0, rfl⟩, rnd0, hres⟩ := matchV_spec hR0
      obtain ⟨⟨s1, rfl⟩, rnd, rlen, rspec, rgrp⟩ := matchO_spec Hs1 x.new x.hs.length _ [] _ hRr
      have hun : (upto 0 x.hs.length).Nodup := upto_nodup _ _
      have hRn := rnd (rnd0 hun)
      generalize hRR : upto 0 x.hs.length ++ s0 ++ s1 = RR at *
      have hRlow : ∀ i, i < x.hs.length → RR[i]? = some i := by
        intro i hi
        rw [← hRR, List.append_assoc, List.getElem?_append_left (by rw [upto_length]; exact hi), upto_get, if_pos hi]
        simp
      generalize hAA : A0 ++ t0 = AA at *
      have hRhigh : ∀ j c, RR[x.hs.length + j]? = some c → x.hs.length ≤ c := by
        intro j c hc
        rcases Nat.lt_or_ge c x.hs.length with hlt | hge
        · exfalso
          have h1 := hRlow c hlt
          have h2 := (List.getElem?_eq_some_iff.1 hc).1
          have h3 := (List.getElem?_eq_some_iff.1 h1).1
          have := (List.getElem?_inj h3 hRn).1 (h1.trans hc.symm)
          omega
        · exact hge
      have hcall := hS.call x.f x.args (mkH x.hs) (.ret v0) Hs1 hrun (m.comp AA) w args' hRs has
      refine hcall.mono fun en w1 hq => ?_
      obtain ⟨m1, r1, c1, e1⟩ := hq
      have hk0 : (mkH x.hs).next = x.hs.length := rfl
      rw [hk0] at c1
      have hold : ∀ y, y < w.heap.size → w1.heap[y]? = w.heap[y]? := fun y hy => c1.frame y hy fun b hb => by have := hRs.dom b y hb; rw [hk0] at this; omega
      have hnewIm : ∀ c y, x.hs.length ≤ c → m1.ρ c = some y → w.heap.size ≤ y := by
        intro c y hc hy
        rcases Nat.lt_or_ge y w.heap.size with hlt | hge
        · exfalso
          have hn : (m.comp AA).ρ c = none := by
            cases hcc : (m.comp AA).ρ c with
            | none => rfl
            | some z => have := hRs.dom c z hcc; rw [hk0] at this; omega
          obtain ⟨b0, h1, h2⟩ := c1.fresh c y hy hn hlt
          have := hRs.dom b0 y h1
          rw [hk0] at this
          omega
        · exact hge
      -- the names behind
      let mB := m.behind m1 H.next x.hs.length RR
      have hBold : ∀ b, b < H.next → mB.ρ b = m.ρ b ∧ mB.κ b = m.κ b := fun b hb => by simp [mB, Ren.behind, hb]
      have hBnew : ∀ j, mB.ρ (H.next + j) = (m1.comp RR).ρ (x.hs.length + j) ∧ mB.κ (H.next + j) = (m1.comp RR).κ (x.hs.length + j) := fun j => by
        have hnl : ¬ (H.next + j < H.next) := by omega
        simp [mB, Ren.behind, hnl]
      have hBcase : ∀ b y, mB.ρ b = some y → (b < H.next ∧ m.ρ b = some y) ∨ (∃ j c, b = H.next + j ∧ j < x.new.length ∧ RR[x.hs.length + j]? = some c ∧ m1.ρ c = some y ∧ w.heap.size ≤ y) := by
        intro b y hb
        rcases Nat.lt_or_ge b H.next with hlt | hge
        · rw [(hBold b hlt).1] at hb; exact .inl ⟨hlt, hb⟩
        · obtain ⟨j, rfl⟩ : ∃ j, b = H.next + j := ⟨b - H.next, by omega⟩
          rw [(hBnew j).1] at hb
          obtain ⟨c, h1, h2⟩ := Ren.comp_inv hb
          have h3 := (List.getElem?_eq_some_iff.1 h1).1
          exact .inr ⟨j, c, rfl, by omega, h1, h2, hnewIm c y (hRhigh j c h1) h2⟩
      have hle : m.Le mB := ⟨fun b y hb => by have := hR.dom b y hb; rw [(hBold b this).1]; exact hb, fun b y hb => (hBold b (hR.dom b y hb)).2⟩
      have hA3 : ∀ i, (AA ++ upto H.next x.new.length)[i]? = if i < x.hs.length then AA[i]? else if i < x.hs.length + x.new.length then some (H.next + (i - x.hs.length)) else none := by
        intro i
        by_cases hi : i < x.hs.length
        · rw [if_pos hi, List.getElem?_append_left (by omega)]
        · rw [if_neg hi, List.getElem?_append_right (by omega), hAl, upto_get]
          by_cases h2 : i < x.hs.length + x.new.length
          · rw [if_pos (by omega), if_pos h2]
          · rw [if_neg (by omega), if_neg h2]
      have hle2 : (m1.comp RR).Le (mB.comp (AA ++ upto H.next x.new.length)) := by
        have key : ∀ i y, (m1.comp RR).ρ i = some y → (mB.comp (AA ++ upto H.next x.new.length)).ρ i = some y ∧ (mB.comp (AA ++ upto H.next x.new.length)).κ i = (m1.comp RR).κ i := by
          intro i y hi
          obtain ⟨c, h1, h2⟩ := Ren.comp_inv hi
          have h3 := (List.getElem?_eq_some_iff.1 h1).1
          rcases Nat.lt_or_ge i x.hs.length with hlt | hge
          · have hci : c = i := by have := hRlow i hlt; rw [h1] at this; simpa using this
            subst hci
            have hms : (m.comp AA).ρ c = some y := by
              cases hcc : (m.comp AA).ρ c with
              | none => have := c1.new c y h2 hcc; omega
              | some z => have := c1.le.ρ _ _ hcc; rw [h2] at this; rw [this]
            obtain ⟨b, h4, h5⟩ := Ren.comp_inv hms
            have hb3 : (AA ++ upto H.next x.new.length)[c]? = some b := by rw [hA3, if_pos hlt]; exact h4
            have hbH := hR.dom b y h5
            rw [(Ren.comp_some hb3).1, (Ren.comp_some hb3).2, (Ren.comp_some h1).2, (hBold b hbH).1, (hBold b hbH).2, c1.le.κ _ _ hms, (Ren.comp_some h4).2]
            exact ⟨h5, rfl⟩
          · have hb3 : (AA ++ upto H.next x.new.length)[i]? = some (H.next + (i - x.hs.length)) := by rw [hA3, if_neg (by omega), if_pos (by omega)]
            rw [(Ren.comp_some hb3).1, (Ren.comp_some hb3).2, (hBnew _).1, (hBnew _).2]
            have e : x.hs.length + (i - x.hs.length) = i := by omega
            rw [e]
            exact ⟨hi, rfl⟩
        exact ⟨fun i y hi => (key i y hi).1, fun i y hi => (key i y hi).2⟩
      have hobj : ∀ j c y o, RR[x.hs.length + j]? = some c → m1.ρ c = some y → x.new[j]? = some o → ∃ o2 gr o', renO (AA ++ upto H.next x.new.length) (H.next + j) o = some (o2, gr) ∧ H2.get (H.next + j) = some o2 ∧ (gr = true → H2.gs.get (H.next + j) = some (H.next + j, 0)) ∧
          w1.heap[y]? = some o' ∧ OU mB P.cellsOf (H.next + j) o2 o' ∧ (gr = true → ∃ cs T, o2 = .cells cs T (some (H.next + j))) ∧ (gr = false → ∀ cs T g, o2 ≠ .cells cs T (some g)) := by
        intro j c y o h1 h2 ho
        obtain ⟨o2, gr, k1, k2, k3⟩ := p4 j o ho
        obtain ⟨b', ob, q1, q2, q3, _, _⟩ := rspec j o ho
        rw [h1] at q1; simp only [Option.some.injEq] at q1; subst q1
        obtain ⟨o', z1, z2⟩ := r1.obj c y ob h2 q2
        have z3 := q3 K m1 P.cellsOf o' z2
        have hj := (List.getElem?_eq_some_iff.1 ho).1
        have hb3 : (AA ++ upto H.next x.new.length)[x.hs.length + j]? = some (H.next + j) := by
          rw [hA3, if_neg (by omega), if_pos (by omega)]
          congr 2; omega
        have z4 := z3.mono hle2 (x := y) (by rw [(Ren.comp_some h1).1]; exact h2)
        obtain ⟨s1, s2, s3⟩ := renO_spec k1 hb3
        exact ⟨o2, gr, o', k1, k2, k3, z1, s1 mB _ o' z4, s2, s3⟩
      have hRB : Rel K P mB H2 w1 := by
        refine ⟨?_, ?_, ?_, ?_, ?_, ?_, ?_, ?_, ?_, r1.ob⟩
        · intro b y hb
          rcases hBcase b y hb with ⟨h1, _⟩ | ⟨j, c, rfl, hj, _⟩ <;> omega
        · intro b y o hb ho
          rcases hBcase b y hb with ⟨h1, h2⟩ | ⟨j, c, rfl, hj, h1, h2, _⟩
          · rw [(p3 b h1).1] at ho
            obtain ⟨o', k1, k2⟩ := hR.obj b y o h2 ho
            refine ⟨o', by rw [hold y (hR.bnd b y h2)]; exact k1, k2.mono hle h2 fun cs T g tip kill he hg hk => ?_⟩
            subst he
            rw [(p3 g (hR.gbd b y cs T g h2 ho)).2] at hg
            exact ⟨tip, kill, hg, hk⟩
          · obtain ⟨oe, hoe⟩ : ∃ oe, x.new[j]? = some oe := ⟨x.new[j], by simp [hj]⟩
            obtain ⟨o2, gr, o', _, k2, _, k4, k5, _, _⟩ := hobj j c y oe h1 h2 hoe
            rw [k2] at ho; simp only [Option.some.injEq] at ho; subst ho
            exact ⟨o', k4, k5.orel⟩
        · intro b c y hb hc
          rcases hBcase b y hb with ⟨h1, h2⟩ | ⟨j, cb, rfl, hj, h1, h2, h3⟩ <;> rcases hBcase c y hc with ⟨h1', h2'⟩ | ⟨j', cc, rfl, hj', h1', h2', h3'⟩
          · rcases hR.inj b c y h2 h2' with e | ⟨g, cs, T, cs', T', k1, k2⟩
            · exact .inl e
            · exact .inr ⟨g, cs, T, cs', T', by rw [(p3 b h1).1]; exact k1, by rw [(p3 c h1').1]; exact k2⟩
          · have := hR.bnd b y h2; omega
          · have := hR.bnd c y h2'; omega
          · left
            have hjj : j = j' := by
              rcases r1.inj cb cc y h2 h2' with e | ⟨g, cs, T, cs', T', k1, k2⟩
              · subst e
                have z1 := (List.getElem?_eq_some_iff.1 h1).1
                have := (List.getElem?_inj z1 hRn).1 (h1.trans h1'.symm)
                omega
              · exact rgrp j j' cb cc _ _ g hj hj' h1 h1' k1 k2 rfl rfl
            rw [hjj]
        · intro b y hb
          rcases hBcase b y hb with ⟨h1, h2⟩ | ⟨j, c, rfl, hj, h1, h2, h3⟩
          · have := hR.bnd b y h2; have := c1.size; omega
          · exact r1.bnd c y h2
        · intro b y cs T g tip kill hb ho hg hk
          rcases hBcase b y hb with ⟨h1, h2⟩ | ⟨j, c, rfl, hj, h1, h2, h3⟩
          · rw [(p3 b h1).1] at ho
            rw [(p3 g (hR.gbd b y cs T g h2 ho)).2] at hg
            obtain ⟨k1, k2, k3⟩ := hR.grp b y cs T g tip kill h2 ho hg hk
            refine ⟨k1, by omega, fun o2 ho2 => k3 o2 ?_⟩
            rwa [(p3 tip k2).1] at ho2
          · obtain ⟨oe, hoe⟩ : ∃ oe, x.new[j]? = some oe := ⟨x.new[j], by simp [hj]⟩
            obtain ⟨o2, gr, o', _, k2, k3, k4, k5, k6, k7⟩ := hobj j c y oe h1 h2 hoe
            rw [k2] at ho; simp only [Option.some.injEq] at ho; subst ho
            cases gr with
            | false => exact absurd rfl (k7 rfl _ _ _)
            | true =>
              obtain ⟨cs2, T2, e⟩ := k6 rfl
              simp only [AO.cells.injEq, Option.some.injEq] at e
              obtain ⟨_, _, rfl⟩ := e
              rw [k3 rfl] at hg
              simp only [Option.some.injEq, Prod.mk.injEq] at hg; obtain ⟨rfl, rfl⟩ := hg
              refine ⟨Nat.le_refl _, by omega, fun o2 ho2 => ?_⟩
              rw [k2] at ho2
              simp only [Option.some.injEq] at ho2
              exact ⟨cs, ho2.symm, Nat.le_refl _⟩
        · intro b y cs T g hb ho
          rcases hBcase b y hb with ⟨h1, h2⟩ | ⟨j, c, rfl, hj, h1, h2, h3⟩
          · rw [(p3 b h1).1] at ho
            have := hR.gbd b y cs T g h2 ho
            omega
          · obtain ⟨oe, hoe⟩ : ∃ oe, x.new[j]? = some oe := ⟨x.new[j], by simp [hj]⟩
            obtain ⟨o2, gr, o', _, k2, k3, k4, k5, k6, k7⟩ := hobj j c y oe h1 h2 hoe
            rw [k2] at ho; simp only [Option.some.injEq] at ho; subst ho
            cases gr with
            | false => exact absurd rfl (k7 rfl _ _ _)
            | true =>
              obtain ⟨cs2, T2, e⟩ := k6 rfl
              simp only [AO.cells.injEq, Option.some.injEq] at e
              omega
        · intro b y hb
          rcases hBcase b y hb with ⟨h1, h2⟩ | ⟨j, c, rfl, hj, h1, h2, h3⟩
          · exact (hR.base b y h2).imp_right fun h0 => by rw [(p3 b h1).1]; exact h0
          · exact .inl (Nat.le_trans hR.bsz h3)
        · intro y hy
          rw [hold y (Nat.lt_of_lt_of_le hy hR.bsz)]; exact hR.gl y hy
        · have := hR.bsz; have := c1.size; omega
      have hC : ∀ low, CSt m w H.next low mB w1 := fun low => by
        refine ⟨hle, fun b y h1 h2 => ?_, c1.size, fun y hy _ => hold y hy, fun b y h1 h2 h3 => ?_⟩
        · rcases hBcase b y h1 with ⟨_, h4⟩ | ⟨j, c, rfl, _⟩
          · rw [h2] at h4; simp at h4
          · omega
        · rcases hBcase b y h1 with ⟨_, h4⟩ | ⟨j, c, rfl, _, _, _, h5⟩
          · rw [h2] at h4; simp at h4
          · omega
      refine ⟨mB, hRB, hC _, ?_, fun _ => hC _⟩
      cases en with
      | returned v' =>
        simp only [EndR] at e1 ⊢
        have h1 := (hres m1 v' e1)
        have h2 : VR (m1.comp RR) x.v v' := by
          have := h1.mono (Ren.comp_le m1 _ s1)
          rwa [hRR] at this
        exact renV_spec hv (h2.mono hle2)
      | panicked ch => exact e1.elim
      | outgrown => exact e1.elim
end
end Go.U
end

section
namespace Go.U
set_option autoImplicit false

/-! ### rows, tries, numbers -/
noncomputable def nth (l : List Value) : Nat → Value :=
  List.rec (motive := fun _ => Nat → Value) (fun _ => undef) (fun a _ ih n => Nat.rec (motive := fun _ => Value) a (fun k _ => ih k) n) l
theorem nth_eq : ∀ (l : List Value) (n : Nat), nth l n = l.getD n undef
  | [], _ => by simp [nth]
  | _ :: _, 0 => rfl
  | _ :: l, n + 1 => (nth_eq l n).trans (by simp)
noncomputable def kset (l : List Value) : Nat → Value → List Value :=
  List.rec (motive := fun _ => Nat → Value → List Value) (fun _ _ => []) (fun a t ih n v => Nat.rec (motive := fun _ => List Value) (v :: t) (fun k _ => a :: ih k v) n) l
theorem kset_eq : ∀ (l : List Value) (n : Nat) (v : Value), kset l n v = l.set n v
  | [], _, _ => rfl
  | _ :: _, 0, _ => rfl
  | a :: l, n + 1, v => congrArg (a :: ·) (kset_eq l n v)
noncomputable def knth {α : Type} (l : List α) : Nat → Option α :=
  List.rec (motive := fun _ => Nat → Option α) (fun _ => none) (fun a _ ih n => Nat.rec (motive := fun _ => Option α) (some a) (fun k _ => ih k) n) l
theorem knth_eq {α : Type} : ∀ (l : List α) (n : Nat), knth l n = l[n]?
  | [], _ => rfl
  | _ :: _, 0 => rfl
  | _ :: l, n + 1 => (knth_eq l n).trans (by simp)
noncomputable def kdrop (n : Nat) : List Value → List Value :=
  Nat.rec (motive := fun _ => List Value → List Value) (fun l => l) (fun _ ih l => List.rec (motive := fun _ => List Value) [] (fun _ t _ => ih t) l) n
theorem kdrop_eq : ∀ (n : Nat) (l : List Value), kdrop n l = l.drop n
  | 0, _ => rfl
  | _ + 1, [] => rfl
  | n + 1, _ :: l => kdrop_eq n l
noncomputable def ktake (n : Nat) : List Value → List Value :=
  Nat.rec (motive := fun _ => List Value → List Value) (fun _ => []) (fun _ ih l => List.rec (motive := fun _ => List Value) [] (fun a t _ => a :: ih t) l) n
theorem ktake_eq : ∀ (n : Nat) (l : List Value), ktake n l = l.take n
  | 0, _ => rfl
  | _ + 1, [] => rfl
  | n + 1, a :: l => congrArg (a :: ·) (ktake_eq n l)
noncomputable def klen (l : List Value) : Nat := List.rec (motive := fun _ => Nat) 0 (fun _ _ ih => Nat.succ ih) l
theorem klen_eq : ∀ (l : List Value), klen l = l.length
  | [] => rfl
  | _ :: l => congrArg Nat.succ (klen_eq l)
noncomputable def kover (vs : List Value) : List Value → Nat → List Value :=
  List.rec (motive := fun _ => List Value → Nat → List Value) (fun cs _ => cs) (fun v _ ih cs off => ih (kset cs off v) (Nat.succ off)) vs
theorem kover_eq : ∀ (vs cs : List Value) (off : Nat), kover vs cs off = over cs off vs
  | [], _, _ => rfl
  | v :: vs, cs, off => (kover_eq vs (kset cs off v) (off + 1)).trans (by rw [kset_eq]; rfl)
noncomputable def kget {α : Type} (t : Tr α) : Nat → Option α :=
  Tr.rec (motive := fun _ => Nat → Option α) (fun _ => none)
    (fun v _ _ ihl ihr k => Nat.rec (motive := fun _ => Option α) v (fun j _ => Bool.rec (motive := fun _ => Option α) (ihr (Nat.div j 2)) (ihl (Nat.div j 2)) (Nat.beq (Nat.mod j 2) 0)) k) t
theorem kget_eq {α : Type} : ∀ (t : Tr α) (k : Nat), kget t k = t.get k
  | .lf, _ => rfl
  | .nd v l r, 0 => rfl
  | .nd v l r, j + 1 => by
    show Bool.rec (motive := fun _ => Option α) (kget r (j / 2)) (kget l (j / 2)) (Nat.beq (j % 2) 0) = bif Nat.beq (j + 1) 0 then v else bif Nat.beq ((j + 1 - 1) % 2) 0 then l.get ((j + 1 - 1) / 2) else r.get ((j + 1 - 1) / 2)
    have e : Nat.beq (j + 1) 0 = false := rfl
    rw [e, kget_eq r, kget_eq l, Nat.add_sub_cancel]
    cases Nat.beq (j % 2) 0 <;> rfl
noncomputable def kts {α : Type} (n : Nat) : Tr α → Nat → α → Tr α :=
  Nat.rec (motive := fun _ => Tr α → Nat → α → Tr α) (fun t _ _ => t)
    (fun _ ih t k x => Tr.rec (motive := fun _ => Nat → Tr α)
      (fun k => Nat.rec (motive := fun _ => Tr α) (.nd (some x) .lf .lf) (fun j _ => Bool.rec (motive := fun _ => Tr α) (.nd none .lf (ih .lf (Nat.div j 2) x)) (.nd none (ih .lf (Nat.div j 2) x) .lf) (Nat.beq (Nat.mod j 2) 0)) k)
      (fun v l r _ _ k => Nat.rec (motive := fun _ => Tr α) (.nd (some x) l r) (fun j _ => Bool.rec (motive := fun _ => Tr α) (.nd v l (ih r (Nat.div j 2) x)) (.nd v (ih l (Nat.div j 2) x) r) (Nat.beq (Nat.mod j 2) 0)) k) t k) n
theorem kts_eq {α : Type} : ∀ (n : Nat) (t : Tr α) (k : Nat) (x : α), kts n t k x = Tr.set n t k x
  | 0, _, _, _ => rfl
  | n + 1, .lf, 0, x => rfl
  | n + 1, .nd v l r, 0, x => rfl
  | n + 1, .lf, j + 1, x => by
    show Bool.rec (motive := fun _ => Tr α) (.nd none .lf (kts n .lf (j / 2) x)) (.nd none (kts n .lf (j / 2) x) .lf) (Nat.beq (j % 2) 0) = bif Nat.beq (j + 1) 0 then .nd (some x) .lf .lf else bif Nat.beq ((j + 1 - 1) % 2) 0 then .nd none (Tr.set n .lf ((j + 1 - 1) / 2) x) .lf else .nd none .lf (Tr.set n .lf ((j + 1 - 1) / 2) x)
    have e : Nat.beq (j + 1) 0 = false := rfl
    rw [e, kts_eq n .lf, Nat.add_sub_cancel]
    cases Nat.beq (j % 2) 0 <;> rfl
  | n + 1, .nd v l r, j + 1, x => by
    show Bool.rec (motive := fun _ => Tr α) (.nd v l (kts n r (j / 2) x)) (.nd v (kts n l (j / 2) x) r) (Nat.beq (j % 2) 0) = bif Nat.beq (j + 1) 0 then .nd (some x) l r else bif Nat.beq ((j + 1 - 1) % 2) 0 then .nd v (Tr.set n l ((j + 1 - 1) / 2) x) r else .nd v l (Tr.set n r ((j + 1 - 1) / 2) x)
    have e : Nat.beq (j + 1) 0 = false := rfl
    rw [e, kts_eq n l, kts_eq n r, Nat.add_sub_cancel]
    cases Nat.beq (j % 2) 0 <;> rfl
noncomputable def kadd (a b : Int) : Int := Int.rec (motive := fun _ => Int → Int) (fun m b => Int.rec (motive := fun _ => Nat → Int) (fun n m => Int.ofNat (Nat.add m n)) (fun n m => Int.add (.ofNat m) (.negSucc n)) b m) (fun m b => Int.add (.negSucc m) b) a b
theorem kadd_eq (a b : Int) : kadd a b = a + b := by cases a <;> cases b <;> rfl
noncomputable def ksub (a b : Int) : Int := Int.rec (motive := fun _ => Int → Int) (fun m b => Int.rec (motive := fun _ => Nat → Int) (fun n m => Bool.rec (motive := fun _ => Int) (Int.subNatNat m n) (Int.ofNat (Nat.sub m n)) (Nat.ble n m)) (fun n m => Int.sub (.ofNat m) (.negSucc n)) b m) (fun m b => Int.sub (.negSucc m) b) a b
theorem ksub_eq (a b : Int) : ksub a b = a - b := by
  cases a with
  | negSucc m => rfl
  | ofNat m => cases b with
    | negSucc n => rfl
    | ofNat n =>
      show Bool.rec (motive := fun _ => Int) (Int.subNatNat m n) (Int.ofNat (Nat.sub m n)) (Nat.ble n m) = (m : Int) - (n : Int)
      cases h : Nat.ble n m with
      | true => have : n ≤ m := Nat.le_of_ble_eq_true h; show ((m - n : Nat) : Int) = _; omega
      | false => exact Int.subNatNat_eq_coe
noncomputable def kmul (a b : Int) : Int := Int.rec (motive := fun _ => Int → Int) (fun m b => Int.rec (motive := fun _ => Nat → Int) (fun n m => Int.ofNat (Nat.mul m n)) (fun n m => Int.mul (.ofNat m) (.negSucc n)) b m) (fun m b => Int.mul (.negSucc m) b) a b
theorem kmul_eq (a b : Int) : kmul a b = a * b := by cases a <;> cases b <;> rfl
noncomputable def kwrapI (n : Int) : Int := Int.rec (motive := fun _ => Int) (fun m => Bool.rec (motive := fun _ => Int) (wrapF .i64 (.ofNat m)) (.ofNat m) (Nat.ble m 9223372036854775807)) (fun m => wrapF .i64 (.negSucc m)) n
theorem kwrapI_eq (n : Int) : kwrapI n = wrapF .i64 n := by
  cases n with
  | negSucc m => rfl
  | ofNat m =>
    show Bool.rec (motive := fun _ => Int) (wrapF .i64 (.ofNat m)) (.ofNat m) (Nat.ble m 9223372036854775807) = _
    cases h : Nat.ble m 9223372036854775807 with
    | false => rfl
    | true =>
      have h1 : m ≤ 9223372036854775807 := Nat.le_of_ble_eq_true h
      have h2 : Nat.blt m 9223372036854775808 = true := by simp [Nat.blt]; omega
      show Int.ofNat m = bif Nat.blt m 9223372036854775808 then Int.ofNat m else _
      rw [h2]; rfl
noncomputable def kwrap (k : IntKind) (n : Int) : Int := (show Int → Int from match k with
  | .i64 => kwrapI
  | k => wrapF k) n
theorem kwrap_eq (k : IntKind) (n : Int) : kwrap k n = wrapF k n := by cases k <;> first | exact kwrapI_eq n | rfl
noncomputable def keqI (a b : Int) : Bool := Int.rec (motive := fun _ => Int → Bool) (fun m b => Int.rec (motive := fun _ => Nat → Bool) (fun n m => Nat.beq m n) (fun _ _ => false) b m) (fun m b => Int.rec (motive := fun _ => Nat → Bool) (fun _ _ => false) (fun n m => Nat.beq m n) b m) a b
theorem keqI_eq (a b : Int) : keqI a b = eqI a b := by cases a <;> cases b <;> rfl
noncomputable def kltI (a b : Int) : Bool := Int.rec (motive := fun _ => Int → Bool) (fun m b => Int.rec (motive := fun _ => Nat → Bool) (fun n m => Nat.ble (Nat.succ m) n) (fun _ _ => false) b m) (fun m b => Int.rec (motive := fun _ => Nat → Bool) (fun _ _ => true) (fun n m => Nat.ble (Nat.succ n) m) b m) a b
theorem kltI_eq (a b : Int) : kltI a b = ltI a b := by cases a <;> cases b <;> rfl
/-- The number 2k or so: which kind. -/
def kix : IntKind → Nat
  | .i8 => 0
  | .i16 => 1
  | .i32 => 2
  | .i64 => 3
  | .u8 => 4
  | .u16 => 5
  | .u32 => 6
  | .u64 => 7
noncomputable def kkEq (k k' : IntKind) : Bool := Nat.beq (kix k) (kix k')
theorem kkEq_eq (k k' : IntKind) : kkEq k k' = kEq k k' := by cases k <;> cases k' <;> rfl
/-- A whole number is made plain. -/
noncomputable def kfin (k : IntKind) (n : Int) : Value := Int.rec (motive := fun _ => IntKind → Value) (fun m k => Nat.rec (motive := fun _ => Value) (.int k (.ofNat 0)) (fun j _ => .int k (.ofNat (Nat.succ j))) m) (fun m k => .int k (.negSucc m)) n k
theorem kfin_eq (k : IntKind) (n : Int) : kfin k n = .int k n := by
  cases n with
  | ofNat m => cases m <;> rfl
  | negSucc m => rfl
noncomputable def kbit (m n : Nat) : Bool := Nat.rec (motive := fun _ => Bool) false (fun _ _ => true) (Nat.land 1 (Nat.shiftRight m n))
theorem kbit_eq (m n : Nat) : kbit m n = m.testBit n := by
  show Nat.rec (motive := fun _ => Bool) false (fun _ _ => true) (1 &&& (m >>> n)) = (1 &&& (m >>> n) != 0)
  cases 1 &&& (m >>> n) <;> rfl

/-! ### operands -/
noncomputable def kplain (v : Value) : Bool := match v with
  | .int _ _ => true
  | .bool _ => true
  | .string _ => true
  | v => plainV v
theorem kplain_eq (v : Value) : kplain v = plainV v := by cases v <;> rfl
noncomputable def kopd (tm : List Value) (x : Operand) : Option Value :=
  Operand.rec (motive := fun _ => List Value → Option Value) (fun t tm => some (nth tm t)) (fun v _ => Bool.rec (motive := fun _ => Option Value) none (some v) (kplain v)) (fun _ _ => none) (fun f _ => some (.func (.func f) #[] #[])) x tm
theorem kopd_eq (tm : List Value) : kopd tm = opd tm := by
  funext x
  cases x with
  | tmp t => exact congrArg some (nth_eq tm t)
  | const v =>
    show Bool.rec (motive := fun _ => Option Value) none (some v) (kplain v) = bif plainV v then some v else none
    rw [kplain_eq]; cases plainV v <;> rfl
  | global g => rfl
  | func f => rfl
noncomputable def kputT (tm : List Value) (d : Option Tmp) (v : Value) : List Value :=
  Option.rec (motive := fun _ => List Value → Value → List Value) (fun tm _ => tm) (fun d tm v => kset tm d v) d tm v
theorem kputT_eq (tm : List Value) (d : Option Tmp) (v : Value) : kputT tm d v = putT tm d v := by
  cases d with
  | none => rfl
  | some d => exact kset_eq tm d v
noncomputable def kops1 (l : List Operand) : (Operand → Option Value) → Option (List Value) :=
  List.rec (motive := fun _ => (Operand → Option Value) → Option (List Value)) (fun _ => some []) (fun x _ ih e =>
    Option.rec (motive := fun _ => Option (List Value) → Option (List Value)) (fun _ => none) (fun v vs => Option.rec (motive := fun _ => Value → Option (List Value)) (fun _ => none) (fun vs v => some (v :: vs)) vs v) (e x) (ih e)) l
theorem kops1_eq (e : Operand → Option Value) : ∀ (l : List Operand), kops1 l e = ops1 e l
  | [] => rfl
  | x :: l => by
    show Option.rec (motive := fun _ => Option (List Value) → Option (List Value)) (fun _ => none) (fun v vs => Option.rec (motive := fun _ => Value → Option (List Value)) (fun _ => none) (fun vs v => some (v :: vs)) vs v) (e x) (kops1 l e) = _
    rw [kops1_eq e l]
    simp only [ops1]
    cases e x with
    | none => rfl
    | some v => cases ops1 e l <;> rfl

/-! ### operations -/
/-- A value is made plain at its head. -/
noncomputable def khead (v : Value) : Value := match v with
  | .int k n => kfin k n
  | .bool b => Bool.rec (motive := fun _ => Value) (.bool false) (.bool true) b
  | v => v
theorem khead_eq (v : Value) : khead v = v := by
  cases v <;> try rfl
  · rename_i b; cases b <;> rfl
  · exact kfin_eq _ _
/-- The value, with its head laid bare. -/
noncomputable def kfn (v : Value) (s : St) : Option OR := (show St → Option OR from match v with
  | .int k n => fun s => some (.val (.int k n) s true)
  | .bool b => fun s => some (.val (.bool b) s true)
  | v => fun s => some (.val v s true)) s
theorem kfn_eq (v : Value) (s : St) : kfn v s = some (.val v s true) := by cases v <;> rfl
noncomputable def kval (x : Option Value) (s : St) : Option OR := Option.rec (motive := fun _ => St → Option OR) (fun _ => none) (fun v s => kfn (khead v) s) x s
theorem kval_eq (x : Option Value) (s : St) : kval x s = match x with
    | some v => some (.val v s true)
    | none => none := by
  cases x with
  | none => rfl
  | some v => show kfn (khead v) s = _; rw [kfn_eq, khead_eq]
abbrev OpK := Env → Rec → Ctx → (Operand → Option Value) → St → Oper → Option OR
noncomputable def kbool (b : Bool) (s : St) : Option OR := Bool.rec (motive := fun _ => St → Option OR) (fun s => some (.val (.bool false) s true)) (fun s => some (.val (.bool true) s true)) b s
theorem kbool_eq (b : Bool) (s : St) : kbool b s = some (.val (.bool b) s true) := by cases b <;> rfl
noncomputable def kint (k : IntKind) (n : Int) (s : St) : Option OR := kfn (kfin k n) s
theorem kint_eq (k : IntKind) (n : Int) (s : St) : kint k n s = some (.val (.int k n) s true) := by rw [kint, kfn_eq, kfin_eq]
noncomputable def kPick2 (v : Value) (e : Operand → Option Value) (s : St) (a b : Operand) : Option OR := (show (Operand → Option Value) → St → Operand → Operand → Option OR from match v with
  | .bool b => fun e s x y => Bool.rec (motive := fun _ => Option OR) (kval (e y) s) (kval (e x) s) b
  | _ => fun _ _ _ _ => none) e s a b
noncomputable def kPick (c a b : Operand) : OpK := fun _ _ _ e s _ =>
  Option.rec (motive := fun _ => (Operand → Option Value) → St → Operand → Operand → Option OR) (fun _ _ _ _ => none) (fun v e s a b => kPick2 v e s a b) (e c) e s a b
noncomputable def kint2 (op : BinOp) (k : IntKind) (a b : Int) (s : St) : Option OR := (show IntKind → Int → Int → St → Option OR from match op with
  | .add => fun k a b s => kint k (kwrap k (kadd a b)) s
  | .sub => fun k a b s => kint k (kwrap k (ksub a b)) s
  | .mul => fun k a b s => kint k (kwrap k (kmul a b)) s
  | .eql => fun _ a b s => kbool (keqI a b) s
  | .neq => fun _ a b s => kbool (Bool.rec (motive := fun _ => Bool) true false (keqI a b)) s
  | .lss => fun _ a b s => kbool (kltI a b) s
  | .leq => fun _ a b s => kbool (Bool.rec (motive := fun _ => Bool) true false (kltI b a)) s
  | .gtr => fun _ a b s => kbool (kltI b a) s
  | .geq => fun _ a b s => kbool (Bool.rec (motive := fun _ => Bool) true false (kltI a b)) s
  | op => fun k a b s => kval (iop op k a b) s) k a b s
theorem bnot (b : Bool) : Bool.rec (motive := fun _ => Bool) true false b = !b := by cases b <;> rfl
theorem kint2_eq (op : BinOp) (k : IntKind) (a b : Int) (s : St) : kint2 op k a b s = match iop op k a b with
    | some v => some (.val v s true)
    | none => none := by
  cases op <;> simp only [kint2, kint_eq, kbool_eq, kval_eq, kwrap_eq, kadd_eq, ksub_eq, kmul_eq, keqI_eq, kltI_eq, iop, bnot]
def kshl : BinOp → Bool
  | .shl | .shr => true
  | _ => false
noncomputable def kBin4 (v : Value) (op : BinOp) (k : IntKind) (a : Int) (E : Env) (r : Rec) (c : Ctx) (e : Operand → Option Value) (s : St) (o : Oper) : Option OR :=
  (show BinOp → IntKind → Int → OpK from match v with
  | .int k' b => fun op k a E r c e s o => Bool.rec (motive := fun _ => OpK) (fun E r c e s o => operE E r c e s o) (fun _ _ _ _ s _ => kint2 op k a b s) (kkEq k k' && !kshl op) E r c e s o
  | _ => fun _ _ _ E r c e s o => operE E r c e s o) op k a E r c e s o
noncomputable def kBin3 (x : Option Value) (op : BinOp) (k : IntKind) (a : Int) (E : Env) (r : Rec) (c : Ctx) (e : Operand → Option Value) (s : St) (o : Oper) : Option OR :=
  Option.rec (motive := fun _ => BinOp → IntKind → Int → OpK) (fun _ _ _ E r c e s o => operE E r c e s o) (fun v op k a E r c e s o => kBin4 v op k a E r c e s o) x op k a E r c e s o
noncomputable def kBin2 (v : Value) (op : BinOp) (y : Operand) (E : Env) (r : Rec) (c : Ctx) (e : Operand → Option Value) (s : St) (o : Oper) : Option OR :=
  (show BinOp → Operand → OpK from match v with
  | .int k a => fun op y E r c e s o => kBin3 (e y) op k a E r c e s o
  | _ => fun _ _ E r c e s o => operE E r c e s o) op y E r c e s o
noncomputable def kBin (op : BinOp) (x y : Operand) : OpK := fun E r c e s o =>
  Option.rec (motive := fun _ => BinOp → Operand → OpK) (fun _ _ E r c e s o => operE E r c e s o) (fun v op y E r c e s o => kBin2 v op y E r c e s o) (e x) op y E r c e s o
noncomputable def kUn2 (v : Value) (E : Env) (r : Rec) (c : Ctx) (e : Operand → Option Value) (s : St) (o : Oper) : Option OR :=
  (show OpK from match v with
  | .bool b => fun _ _ _ _ s _ => Bool.rec (motive := fun _ => Option OR) (kbool true s) (kbool false s) b
  | _ => fun E r c e s o => operE E r c e s o) E r c e s o
noncomputable def kUn (op : UnOp) (x : Operand) : OpK := fun E r c e s o =>
  (show Option Value → OpK from match op with
  | .not => fun x => Option.rec (motive := fun _ => OpK) (fun E r c e s o => operE E r c e s o) (fun v E r c e s o => kUn2 v E r c e s o) x
  | _ => fun _ E r c e s o => operE E r c e s o) (e x) E r c e s o
noncomputable def kNil2 (v : Value) (E : Env) (r : Rec) (c : Ctx) (e : Operand → Option Value) (s : St) (o : Oper) : Option OR :=
  (show OpK from match v with
  | .pointer a => fun E r c e s o => Option.rec (motive := fun _ => OpK) (fun E r c e s o => operE E r c e s o) (fun a _ _ _ _ s _ => some (.val (.pointer (some a)) s true)) a E r c e s o
  | _ => fun E r c e s o => operE E r c e s o) E r c e s o
noncomputable def kNil (x : Operand) : OpK := fun E r c e s o =>
  Option.rec (motive := fun _ => OpK) (fun E r c e s o => operE E r c e s o) (fun v E r c e s o => kNil2 v E r c e s o) (e x) E r c e s o
/-- A pointer to no piece of a cell. -/
noncomputable def kptr (v : Value) (f : Nat → Nat → OpK) : OpK := fun E r c e s o =>
  (show (Nat → Nat → OpK) → OpK from match v with
  | .pointer a => fun f E r c e s o => Option.rec (motive := fun _ => (Nat → Nat → OpK) → OpK) (fun _ E r c e s o => operE E r c e s o)
      (fun a => Addr.rec (motive := fun _ => (Nat → Nat → OpK) → OpK) (fun b o' sp f E r c e s o => Option.rec (motive := fun _ => (Nat → Nat → OpK) → OpK) (fun f E r c e s o => f b o' E r c e s o) (fun _ _ E r c e s o => operE E r c e s o) sp f E r c e s o) a) a f E r c e s o
  | _ => fun _ E r c e s o => operE E r c e s o) f E r c e s o
theorem kptr_eq (v : Value) (f : Nat → Nat → OpK) (E : Env) (r : Rec) (c : Ctx) (e : Operand → Option Value) (s : St) (o : Oper) : kptr v f E r c e s o = match v with
    | .pointer (some ⟨b, o', none⟩) => f b o' E r c e s o
    | _ => operE E r c e s o := by
  cases v <;> try rfl
  rename_i a
  cases a with
  | none => rfl
  | some a => obtain ⟨b, o', sp⟩ := a; cases sp <;> rfl
noncomputable def kwith (x : Option Value) (f : Value → OpK) : OpK := fun E r c e s o =>
  Option.rec (motive := fun _ => (Value → OpK) → OpK) (fun _ E r c e s o => operE E r c e s o) (fun v f E r c e s o => f v E r c e s o) x f E r c e s o
theorem kwith_eq (x : Option Value) (f : Value → OpK) (E : Env) (r : Rec) (c : Ctx) (e : Operand → Option Value) (s : St) (o : Oper) : kwith x f E r c e s o = match x with
    | some v => f v E r c e s o
    | none => operE E r c e s o := by cases x <;> rfl
noncomputable def kwithT (x : Option TI) (f : TI → OpK) : OpK := fun E r c e s o =>
  Option.rec (motive := fun _ => (TI → OpK) → OpK) (fun _ E r c e s o => operE E r c e s o) (fun v f E r c e s o => f v E r c e s o) x f E r c e s o
theorem kwithT_eq (x : Option TI) (f : TI → OpK) (E : Env) (r : Rec) (c : Ctx) (e : Operand → Option Value) (s : St) (o : Oper) : kwithT x f E r c e s o = match x with
    | some v => f v E r c e s o
    | none => operE E r c e s o := by cases x <;> rfl
/-- Some of an option, or the old way. -/
noncomputable def kwithN (x : Option Nat) (f : Nat → OpK) : OpK := fun E r c e s o =>
  Option.rec (motive := fun _ => (Nat → OpK) → OpK) (fun _ E r c e s o => operE E r c e s o) (fun v f E r c e s o => f v E r c e s o) x f E r c e s o
theorem kwithN_eq (x : Option Nat) (f : Nat → OpK) (E : Env) (r : Rec) (c : Ctx) (e : Operand → Option Value) (s : St) (o : Oper) : kwithN x f E r c e s o = match x with
    | some v => f v E r c e s o
    | none => operE E r c e s o := by cases x <;> rfl
noncomputable def kstm (s : St) : AH := St.rec (motive := fun _ => AH) (fun _ _ H _ => H) s
/-- The cells of a block. -/
noncomputable def kcells1 (H : AH) (b : Nat) (cs : List Value) (T : TypeId) (g : Option Nat) : Option (List Value × TypeId × Option Nat) :=
  Option.rec (motive := fun _ => AH → Nat → List Value → TypeId → Option (List Value × TypeId × Option Nat)) (fun _ _ cs T => some (cs, T, none))
    (fun g H b cs T => Option.rec (motive := fun _ => Option (List Value × TypeId × Option Nat)) none (fun p => Bool.rec (motive := fun _ => Option (List Value × TypeId × Option Nat)) (some (cs, T, some g)) none (Nat.ble (Nat.succ b) p.2)) (kget H.gs g)) g H b cs T
noncomputable def kcells (H : AH) (b : Nat) : Option (List Value × TypeId × Option Nat) :=
  Option.rec (motive := fun _ => AH → Nat → Option (List Value × TypeId × Option Nat)) (fun _ _ => none)
    (fun ob H b => (show AH → Nat → Option (List Value × TypeId × Option Nat) from match ob with
      | .cells cs T g => fun H b => kcells1 H b cs T g
      | _ => fun _ _ => none) H b) (kget H.t b) H b
theorem kcells_eq (H : AH) (b : Nat) : kcells H b = H.cellsAt b := by
  simp only [kcells, kget_eq, AH.cellsAt, AH.get]
  cases H.t.get b with
  | none => rfl
  | some ob =>
    cases ob <;> try rfl
    rename_i cs T g
    cases g with
    | none => rfl
    | some g =>
      show Option.rec (motive := fun _ => Option (List Value × TypeId × Option Nat)) none (fun p => Bool.rec (motive := fun _ => Option (List Value × TypeId × Option Nat)) (some (cs, T, some g)) none (Nat.ble (Nat.succ b) p.2)) (kget H.gs g) = _
      rw [kget_eq]
      show _ = match H.gs.get g with
        | some (_, kill) => bif Nat.blt b kill then none else some (cs, T, some g)
        | none => none
      cases H.gs.get g with
      | none => rfl
      | some p => obtain ⟨tip, kill⟩ := p; show Bool.rec (motive := fun _ => Option (List Value × TypeId × Option Nat)) (some (cs, T, some g)) none (Nat.ble (Nat.succ b) kill) = bif Nat.ble (b + 1) kill then none else some (cs, T, some g); cases Nat.ble (b + 1) kill <;> rfl
noncomputable def kread2 (i : TI) (o : Nat) (cs : List Value) : Option Value :=
  Bool.rec (motive := fun _ => Option Value) (knth cs o) (Bool.rec (motive := fun _ => Option Value) none (some (.agg ⟨ktake i.size (kdrop o cs)⟩)) (Nat.ble (Nat.add o i.size) (klen cs))) i.agg
noncomputable def kread (x : Option (List Value × TypeId × Option Nat)) (i : TI) (o : Nat) : Option Value :=
  Option.rec (motive := fun _ => TI → Nat → Option Value) (fun _ _ => none) (fun p i o => kread2 i o p.1) x i o
theorem kread2_eq (i : TI) (o : Nat) (cs : List Value) : kread2 i o cs = (bif i.agg then (bif Nat.ble (o + i.size) cs.length then some (.agg ⟨(cs.drop o).take i.size⟩) else none) else cs[o]?) := by
  simp only [kread2, knth_eq, ktake_eq, kdrop_eq, klen_eq]
  show Bool.rec (motive := fun _ => Option Value) (cs[o]?) (Bool.rec (motive := fun _ => Option Value) none (some (.agg ⟨(cs.drop o).take i.size⟩)) (Nat.ble (o + i.size) cs.length)) i.agg = _
  cases i.agg
  · rfl
  · cases Nat.ble (o + i.size) cs.length <;> rfl
noncomputable def kLoad3 (i : TI) (b o : Nat) : OpK := fun _ _ _ _ s _ => kval (kread (kcells s.H b) i o) s
noncomputable def kLoad2 (v : Value) (i : TI) : OpK := kptr v (kLoad3 i)
noncomputable def kLoad1 (t : TypeId) (v : Value) : OpK := fun E r c e s o => kwithT (kget E.T t) (kLoad2 v) E r c e s o
noncomputable def kLoad (t : TypeId) (x : Operand) : OpK := fun E r c e s o => kwith (e x) (kLoad1 t) E r c e s o
noncomputable def kFA5 (b o' : Nat) (off : Nat) (ti : TI) : OpK := fun E r c e s o => Nat.rec (motive := fun _ => OpK) (fun E r c e s o => operE E r c e s o) (fun _ _ _ _ _ _ s _ => some (.val (.pointer (some ⟨b, Nat.add o' off, none⟩)) s true)) ti.size E r c e s o
noncomputable def kFA4 (p : Nat × TypeId) (b o' : Nat) : OpK := fun E r c e s o => kwithT (kget E.T p.2) (kFA5 b o' p.1) E r c e s o
noncomputable def kFA3 (x : Option (Nat × TypeId)) (b o' : Nat) : OpK := fun E r c e s o =>
  Option.rec (motive := fun _ => Nat → Nat → OpK) (fun _ _ E r c e s o => operE E r c e s o) (fun p b o' E r c e s o => kFA4 p b o' E r c e s o) x b o' E r c e s o
noncomputable def kFA2 (f : Nat) (v : Value) (i : TI) : OpK := fun E r c e s o => (show Nat → Value → OpK from match i.d with
  | .struct fs => fun f v E r c e s o => kptr v (kFA3 (knth fs f)) E r c e s o
  | _ => fun _ _ E r c e s o => operE E r c e s o) f v E r c e s o
noncomputable def kFA1 (t : TypeId) (f : Nat) (v : Value) : OpK := fun E r c e s o => kwithT (kget E.T t) (kFA2 f v) E r c e s o
noncomputable def kFA (t : TypeId) (x : Operand) (f : Nat) : OpK := fun E r c e s o => kwith (e x) (kFA1 t f) E r c e s o
/-- A whole number that is not negative. -/
noncomputable def knat (v : Value) : Option Nat := match v with
  | .int _ n => Int.rec (motive := fun _ => Option Nat) (fun m => some m) (fun _ => none) n
  | _ => none
theorem knat_eq (v : Value) : knat v = natOf v := by
  cases v <;> try rfl
  rename_i k n; cases n <;> rfl
noncomputable def kIA5 (b o' n len : Nat) (ei : TI) : OpK := fun E r c e s o =>
  Bool.rec (motive := fun _ => OpK) (fun E r c e s o => operE E r c e s o) (fun _ _ _ _ s _ => some (.val (.pointer (some ⟨b, Nat.add o' (Nat.mul n ei.size), none⟩)) s true)) (Nat.ble (Nat.succ n) len) E r c e s o
noncomputable def kIA4s (len n b o' : Nat) (ti : TI) : OpK := fun E r c e s o => (show Nat → Nat → Nat → Nat → OpK from match ti.d with
  | .slice et => fun len n b o' E r c e s o => kwithT (kget E.T et) (kIA5 b o' n len) E r c e s o
  | _ => fun _ _ _ _ E r c e s o => operE E r c e s o) len n b o' E r c e s o
noncomputable def kIA4a (ti : TI) (n b o' : Nat) : OpK := fun E r c e s o => (show Nat → Nat → Nat → OpK from match ti.d with
  | .arr len et => fun n b o' E r c e s o => kwithT (kget E.T et) (kIA5 b o' n len) E r c e s o
  | _ => fun _ _ _ E r c e s o => operE E r c e s o) n b o' E r c e s o
/-- A slice's row, with no piece of a cell. -/
noncomputable def kIA3s (a : Option Addr) (len n : Nat) (t : TypeId) : OpK := fun E r c e s o =>
  Option.rec (motive := fun _ => Nat → Nat → TypeId → OpK) (fun _ _ _ E r c e s o => operE E r c e s o)
    (fun a => Addr.rec (motive := fun _ => Nat → Nat → TypeId → OpK) (fun b o' sp len n t E r c e s o => Option.rec (motive := fun _ => OpK) (fun E r c e s o => kwithT (kget E.T t) (kIA4s len n b o') E r c e s o) (fun _ E r c e s o => operE E r c e s o) sp E r c e s o) a) a len n t E r c e s o
noncomputable def kIA3p (v : Value) (n : Nat) (ti : TI) : OpK := kptr v (kIA4a ti n)
noncomputable def kIA2 (v : Value) (t : TypeId) (n : Nat) : OpK := fun E r c e s o => (show TypeId → Nat → OpK from match v with
  | .slice a len _ => fun t n E r c e s o => kIA3s a len n t E r c e s o
  | .pointer a => fun t n E r c e s o => kwithT (kget E.T t) (kIA3p (.pointer a) n) E r c e s o
  | _ => fun _ _ E r c e s o => operE E r c e s o) t n E r c e s o
noncomputable def kIA1b (v : Value) (t : TypeId) (iv : Value) : OpK := fun E r c e s o => kwithN (knat iv) (kIA2 v t) E r c e s o
noncomputable def kIA1 (t : TypeId) (i : Operand) (v : Value) : OpK := fun E r c e s o => kwith (e i) (kIA1b v t) E r c e s o
noncomputable def kIA (t : TypeId) (x i : Operand) : OpK := fun E r c e s o => kwith (e x) (kIA1 t i) E r c e s o
noncomputable def kExt3 (l : List Value) (i : Nat) (s : St) : Option OR := kval (knth l i) s
noncomputable def kExt2 (i : Nat) (v : Value) : OpK := fun E r c e s o => (show Nat → OpK from match v with
  | .tuple ⟨l⟩ => fun i _ _ _ _ s _ => kExt3 l i s
  | _ => fun _ E r c e s o => operE E r c e s o) i E r c e s o
noncomputable def kExt (x : Operand) (i : Nat) : OpK := fun E r c e s o => kwith (e x) (kExt2 i) E r c e s o
/-- Calls. -/
noncomputable def kCall3 (fv : Value) (vs : Option (List Value)) : OpK := fun E r c e s o =>
  Option.rec (motive := fun _ => Value → OpK) (fun _ _ _ _ _ _ _ => none) (fun vs fv E r _ _ s _ => after s (invokeIn E r fv vs s.H)) vs fv E r c e s o
noncomputable def kCall (f : Operand) (l : List Operand) : OpK := fun E r c e s o =>
  Option.rec (motive := fun _ => List Operand → OpK) (fun _ _ _ _ _ _ _ => none) (fun fv l E r c e s o => kCall3 fv (kops1 l e) E r c e s o) (e f) l E r c e s o
/-- Length. -/
noncomputable def kLen4 (n : Nat) (i : TI) : OpK := fun E r c e s o => (show Nat → OpK from match i.d with
  | .slice _ => fun n _ _ _ _ s _ => some (.val (.int .i64 (Int.ofNat n)) s true)
  | _ => fun _ E r c e s o => operE E r c e s o) n E r c e s o
noncomputable def kLen3 (t : TypeId) (v : Value) : OpK := fun E r c e s o => (show TypeId → OpK from match v with
  | .slice _ n _ => fun t E r c e s o => kwithT (kget E.T t) (kLen4 n) E r c e s o
  | _ => fun _ E r c e s o => operE E r c e s o) t E r c e s o
noncomputable def kLen2 (x : Operand) (l : List Operand) (ts : List TypeId) : OpK := fun E r c e s o =>
  (show Operand → OpK from match l, ts with
  | [], t :: _ => fun x E r c e s o => kwith (e x) (kLen3 t) E r c e s o
  | _, _ => fun _ E r c e s o => operE E r c e s o) x E r c e s o
noncomputable def kLen (l : List Operand) (ts : List TypeId) : OpK := fun E r c e s o =>
  List.rec (motive := fun _ => List TypeId → OpK) (fun _ E r c e s o => operE E r c e s o) (fun x l _ ts E r c e s o => kLen2 x l ts E r c e s o) l ts E r c e s o
/-- New blocks. -/
noncomputable def kpush (H : AH) (ob : AO) : AH := AH.rec (motive := fun _ => AO → AH) (fun t gs next low ob => Nat.rec (motive := fun _ => AH) ⟨kts 1 t 0 ob, gs, 1, low⟩ (fun j _ => ⟨kts (Nat.succ (Nat.succ j)) t (Nat.succ j) ob, gs, Nat.succ (Nat.succ j), low⟩) next) H ob
theorem kpush_eq (H : AH) (ob : AO) : kpush H ob = H.push ob := by
  obtain ⟨t, gs, next, low⟩ := H
  cases next with
  | zero => show (⟨kts 1 t 0 ob, gs, 1, low⟩ : AH) = _; rw [kts_eq]; rfl
  | succ j => show (⟨kts (j + 2) t (j + 1) ob, gs, j + 2, low⟩ : AH) = _; rw [kts_eq]; rfl
noncomputable def ksetH (s : St) (H : AH) : St := St.rec (motive := fun _ => AH → St) (fun tm df _ bm H => ⟨tm, df, H, bm⟩) s H
noncomputable def kcellsL (v : Value) : List Value := match v with
  | .agg ⟨l⟩ => l
  | v => [v]
theorem kcellsL_eq (v : Value) : kcellsL v = cellsL v := by cases v <;> rfl
noncomputable def kAlloc2 (t : TypeId) (i : TI) : OpK := fun _ _ _ _ s _ => some (.val (.pointer (some ⟨s.H.next, 0, none⟩)) (ksetH s (kpush s.H (.cells (kcellsL i.zero) t none))) true)
noncomputable def kAlloc (t : TypeId) : OpK := fun E r c e s o => kwithT (kget E.T t) (kAlloc2 t) E r c e s o
noncomputable def kBox2 (t : TypeId) (v : Value) : OpK := fun _ _ _ _ s _ => some (.val (.pointer (some ⟨s.H.next, 0, none⟩)) (ksetH s (kpush s.H (.cells (kcellsL v) t none))) true)
noncomputable def kBox (t : TypeId) (x : Operand) : OpK := fun E r c e s o => kwith (e x) (kBox2 t) E r c e s o
/-- Stores, outside of growing rows. -/
noncomputable def koneL (l : List Value) : Bool := List.rec (motive := fun _ => Bool) true (fun v _ ih => (show Bool → Bool from match v with
  | .agg _ => fun _ => false
  | .tuple _ => fun _ => false
  | _ => fun ih => ih) ih) l
theorem koneL_eq : ∀ (l : List Value), koneL l = oneL l
  | [] => rfl
  | v :: l => by
    have ih := koneL_eq l
    cases v <;> first | exact ih | rfl
noncomputable def kput (H : AH) (b : Nat) (ob : AO) : AH := AH.rec (motive := fun _ => Nat → AO → AH) (fun t gs next low b ob =>
  Bool.rec (motive := fun _ => AH) ⟨kts (Nat.succ b) t b ob, gs, next, low⟩ ⟨kts (Nat.succ b) t b ob, gs, next, b⟩ (Nat.ble (Nat.succ b) low)) H b ob
theorem kput_eq (H : AH) (b : Nat) (ob : AO) : kput H b ob = H.put b ob := by
  obtain ⟨t, gs, next, low⟩ := H
  show Bool.rec (motive := fun _ => AH) ⟨kts (b + 1) t b ob, gs, next, low⟩ ⟨kts (b + 1) t b ob, gs, next, b⟩ (Nat.ble (b + 1) low) = ⟨t.set (b + 1) b ob, gs, next, bif Nat.ble (b + 1) low then b else low⟩
  rw [kts_eq]
  cases Nat.ble (b + 1) low <;> rfl
noncomputable def kStore5 (cs : List Value) (T : TypeId) (g : Option Nat) (vs : List Value) (b o' : Nat) : OpK := fun E r c e s o =>
  Option.rec (motive := fun _ => OpK) (fun E r c e s o => Bool.rec (motive := fun _ => OpK) (fun E r c e s o => operE E r c e s o) (fun _ _ _ _ s _ => some (.val undef (ksetH s (kput s.H b (.cells (kover vs cs o') T none))) false)) (koneL vs && Nat.ble (Nat.add o' (klen vs)) (klen cs)) E r c e s o)
    (fun _ E r c e s o => operE E r c e s o) g E r c e s o
noncomputable def kStore4 (x : Option AO) (vs : List Value) (b o' : Nat) : OpK := fun E r c e s o =>
  Option.rec (motive := fun _ => List Value → Nat → Nat → OpK) (fun _ _ _ E r c e s o => operE E r c e s o)
    (fun ob vs b o' E r c e s o => (show List Value → Nat → Nat → OpK from match ob with
      | .cells cs T g => fun vs b o' E r c e s o => kStore5 cs T g vs b o' E r c e s o
      | _ => fun _ _ _ E r c e s o => operE E r c e s o) vs b o' E r c e s o) x vs b o' E r c e s o
noncomputable def kStore3 (vs : List Value) (b o' : Nat) : OpK := fun E r c e s o => kStore4 (kget s.H.t b) vs b o' E r c e s o
noncomputable def kStore2 (x v : Value) (i : TI) : OpK := fun E r c e s o =>
  Bool.rec (motive := fun _ => OpK) (fun E r c e s o => operE E r c e s o) (fun E r c e s o => kptr x (kStore3 (kcellsL v)) E r c e s o) (Nat.beq (klen (kcellsL v)) i.size) E r c e s o
noncomputable def kStore1b (t : TypeId) (x y : Value) : OpK := fun E r c e s o => kwithT (kget E.T t) (kStore2 x y) E r c e s o
noncomputable def kStore1 (t : TypeId) (y : Operand) (x : Value) : OpK := fun E r c e s o => kwith (e y) (kStore1b t x) E r c e s o
noncomputable def kStore (t : TypeId) (x y : Operand) : OpK := fun E r c e s o => kwith (e x) (kStore1 t y) E r c e s o
end Go.U
end

section
namespace Go.U
set_option autoImplicit false

noncomputable def kCallB (b : Builtin) (l : List Operand) (ts : List TypeId) : OpK := fun E r c e s o => (show List Operand → List TypeId → OpK from match b with
  | .len => fun l ts E r c e s o => kLen l ts E r c e s o
  | _ => fun _ _ E r c e s o => operE E r c e s o) l ts E r c e s o
noncomputable def kCallC (c : Callee) : Array Operand → Array TypeId → OpK :=
  Callee.rec (motive := fun _ => Array Operand → Array TypeId → OpK) (fun f args _ E r c e s o => kCall f args.toList E r c e s o) (fun _ _ _ _ E r c e s o => operE E r c e s o)
    (fun b args ts E r c e s o => kCallB b args.toList ts.toList E r c e s o) c
noncomputable def kCallD (c : Call) : OpK := Call.rec (motive := fun _ => OpK) (fun f args ts E r c e s o => kCallC f args ts E r c e s o) c
noncomputable def koperE (E : Env) (r : Rec) (c : Ctx) (e : Operand → Option Value) (s : St) (o : Oper) : Option OR :=
  Op.rec (motive := fun _ => OpK)
    (fun x _ _ _ e s _ => kval (e x) s)
    (fun x _ _ _ e s _ => kval (e x) s)
    (fun c a b => kPick c a b)
    (fun t => kAlloc t)
    (fun t x => kBox t x)
    (fun _ _ E r c e s o => operE E r c e s o)
    (fun _ _ _ E r c e s o => operE E r c e s o)
    (fun _ _ _ _ E r c e s o => operE E r c e s o)
    (fun t x => kLoad t x)
    (fun t x y => kStore t x y)
    (fun _ E r c e s o => operE E r c e s o)
    (fun _ E r c e s o => operE E r c e s o)
    (fun x => kNil x)
    (fun op _ x y _ => kBin op x y)
    (fun op _ x => kUn op x)
    (fun _ _ _ E r c e s o => operE E r c e s o)
    (fun _ _ E r c e s o => operE E r c e s o)
    (fun _ _ E r c e s o => operE E r c e s o)
    (fun _ _ _ E r c e s o => operE E r c e s o)
    (fun _ _ E r c e s o => operE E r c e s o)
    (fun _ _ E r c e s o => operE E r c e s o)
    (fun _ _ _ E r c e s o => operE E r c e s o)
    (fun _ _ _ _ _ E r c e s o => operE E r c e s o)
    (fun t x f => kFA t x f)
    (fun _ _ _ E r c e s o => operE E r c e s o)
    (fun t x i => kIA t x i)
    (fun _ _ _ E r c e s o => operE E r c e s o)
    (fun _ _ _ _ E r c e s o => operE E r c e s o)
    (fun _ _ _ _ E r c e s o => operE E r c e s o)
    (fun _ _ _ E r c e s o => operE E r c e s o)
    (fun _ _ _ _ E r c e s o => operE E r c e s o)
    (fun _ _ E r c e s o => operE E r c e s o)
    (fun _ _ E r c e s o => operE E r c e s o)
    (fun _ E r c e s o => operE E r c e s o)
    (fun _ _ _ _ E r c e s o => operE E r c e s o)
    (fun x i => kExt x i)
    (fun c => kCallD c)
    (fun _ E r c e s o => operE E r c e s o)
    (fun _ E r c e s o => operE E r c e s o)
    (fun _ E r c e s o => operE E r c e s o)
    (fun _ _ E r c e s o => operE E r c e s o)
    (fun _ _ _ E r c e s o => operE E r c e s o)
    (fun _ _ E r c e s o => operE E r c e s o)
    o.op E r c e s o
section
variable (E : Env) (r : Rec) (c : Ctx) (e : Operand → Option Value) (s : St) (dst : Option Tmp) (ty : TypeId) (pos : String) (aft : Array Edge) (guard : Option (Nat × Bool))
theorem eq_move (x : Operand) : kval (e x) s = operE E r c e s ⟨dst, .move x, ty, pos, aft, guard⟩ := by
  rw [kval_eq]; simp only [operE, pureOp, readOp, allocOp, effOp]; cases e x <;> rfl
theorem eq_assign (x : Operand) : kval (e x) s = operE E r c e s ⟨dst, .assign x, ty, pos, aft, guard⟩ := by
  rw [kval_eq]; simp only [operE, pureOp, readOp, allocOp, effOp]; cases e x <;> rfl
theorem eq_pick (x a b : Operand) : kPick x a b E r c e s ⟨dst, .pick x a b, ty, pos, aft, guard⟩ = operE E r c e s ⟨dst, .pick x a b, ty, pos, aft, guard⟩ := by
  simp only [operE, pureOp, readOp, allocOp, effOp, kPick]
  cases e x with
  | none => rfl
  | some v =>
    cases v <;> try rfl
    rename_i q
    cases q
    · show kval (e b) s = _
      rw [kval_eq]; cases e b <;> rfl
    · show kval (e a) s = _
      rw [kval_eq]; cases e a <;> rfl
theorem eq_alloc (t : TypeId) : kAlloc t E r c e s ⟨dst, .alloc t, ty, pos, aft, guard⟩ = operE E r c e s ⟨dst, .alloc t, ty, pos, aft, guard⟩ := by
  simp only [kAlloc, kwithT_eq, kget_eq]
  cases ht : E.T.get t with
  | none => rfl
  | some i => simp only [kAlloc2, kpush_eq, kcellsL_eq, operE, pureOp, readOp, allocOp, tget, ht]; rfl
theorem eq_box (t : TypeId) (x : Operand) : kBox t x E r c e s ⟨dst, .box t x, ty, pos, aft, guard⟩ = operE E r c e s ⟨dst, .box t x, ty, pos, aft, guard⟩ := by
  simp only [kBox, kwith_eq]
  cases hx : e x with
  | none => rfl
  | some v => simp only [kBox2, kpush_eq, kcellsL_eq, operE, pureOp, readOp, allocOp, hx]; rfl
theorem eq_load (t : TypeId) (x : Operand) : kLoad t x E r c e s ⟨dst, .load t x, ty, pos, aft, guard⟩ = operE E r c e s ⟨dst, .load t x, ty, pos, aft, guard⟩ := by
  simp only [kLoad, kwith_eq]
  cases hx : e x with
  | none => rfl
  | some v =>
    simp only [kLoad1, kwithT_eq, kget_eq]
    cases ht : E.T.get t with
    | none => rfl
    | some i =>
      simp only [kLoad2, kptr_eq]
      split
      · rename_i b o'
        simp only [kLoad3, kval_eq, kcells_eq, operE, pureOp, readOp, allocOp, effOp, hx, tget, ht]
        cases s.H.cellsAt b with
        | none => rfl
        | some p =>
          obtain ⟨cs, T, g⟩ := p
          show (match kread2 i o' cs with | some v => _ | none => _) = _
          rw [kread2_eq]
          cases hz : (bif i.agg then (bif Nat.ble (o' + i.size) cs.length then some (Value.agg ⟨(cs.drop o').take i.size⟩) else none) else cs[o']?) <;> simp only [hz]
      · rfl
theorem eq_store (t : TypeId) (x y : Operand) : kStore t x y E r c e s ⟨dst, .store t x y, ty, pos, aft, guard⟩ = operE E r c e s ⟨dst, .store t x y, ty, pos, aft, guard⟩ := by
  simp only [kStore, kwith_eq]
  cases hx : e x with
  | none => rfl
  | some v =>
    simp only [kStore1, kwith_eq]
    cases hy : e y with
    | none => rfl
    | some u =>
      simp only [kStore1b, kwithT_eq, kget_eq]
      cases ht : E.T.get t with
      | none => rfl
      | some i =>
        simp only [kStore2, kcellsL_eq, klen_eq]
        cases hl : Nat.beq (cellsL u).length i.size with
        | false => rfl
        | true =>
          show kptr v (kStore3 (cellsL u)) E r c e s _ = _
          rw [kptr_eq]
          split
          · rename_i b o'
            simp only [kStore3, kget_eq]
            show kStore4 (s.H.get b) _ _ _ _ _ _ _ _ _ = _
            cases hb : s.H.get b with
            | none => rfl
            | some ob =>
              cases ob <;> try rfl
              rename_i cs T g
              cases g with
              | some g => rfl
              | none =>
                show Bool.rec (motive := fun _ => OpK) (fun E r c e s o => operE E r c e s o) (fun _ _ _ _ s _ => some (.val undef (ksetH s (kput s.H b (.cells (kover (cellsL u) cs o') T none))) false)) (koneL (cellsL u) && Nat.ble (Nat.add o' (klen (cellsL u))) (klen cs)) E r c e s _ = _
                rw [koneL_eq, klen_eq, klen_eq]
                cases hq : (oneL (cellsL u) && Nat.ble (Nat.add o' (cellsL u).length) cs.length) with
                | false => rfl
                | true =>
                  have hq' : (oneL (cellsL u) && Nat.ble (o' + (cellsL u).length) cs.length) = true := hq
                  have hc : s.H.cellsAt b = some (cs, T, none) := by simp only [AH.cellsAt, hb]
                  simp only [kput_eq, kover_eq, operE, pureOp, readOp, allocOp, effOp, hx, hy, tget, ht, hl, cond_true, AH.storeAt, hc, hq']
                  rfl
          · rfl
theorem eq_nil (x : Operand) : kNil x E r c e s ⟨dst, .nilCheck x, ty, pos, aft, guard⟩ = operE E r c e s ⟨dst, .nilCheck x, ty, pos, aft, guard⟩ := by
  simp only [kNil]
  cases hx : e x with
  | none => rfl
  | some v =>
    cases v <;> try rfl
    rename_i a
    cases a with
    | none => rfl
    | some a => simp only [operE, pureOp, hx]; rfl
theorem eq_bin (op : BinOp) (t t' : TypeId) (x y : Operand) : kBin op x y E r c e s ⟨dst, .binOp op t x y t', ty, pos, aft, guard⟩ = operE E r c e s ⟨dst, .binOp op t x y t', ty, pos, aft, guard⟩ := by
  simp only [kBin]
  cases hx : e x with
  | none => rfl
  | some v =>
    cases v <;> try rfl
    rename_i k a
    show kBin3 (e y) op k a E r c e s _ = _
    cases hy : e y with
    | none => rfl
    | some u =>
      cases u <;> try rfl
      rename_i k' b
      show Bool.rec (motive := fun _ => OpK) (fun E r c e s o => operE E r c e s o) (fun _ _ _ _ s _ => kint2 op k a b s) (kkEq k k' && !kshl op) E r c e s _ = _
      cases hq : (kkEq k k' && !kshl op) with
      | false => rfl
      | true =>
        simp only [Bool.and_eq_true, Bool.not_eq_true', kkEq_eq] at hq
        show kint2 op k a b s = _
        rw [kint2_eq]
        cases op <;> first
          | (simp [kshl] at hq; done)
          | (simp only [operE, pureOp, readOp, allocOp, effOp, hx, hy, hq.1, cond_true]; cases iop _ k a b <;> rfl)
theorem eq_un (op : UnOp) (t : TypeId) (x : Operand) : kUn op x E r c e s ⟨dst, .unOp op t x, ty, pos, aft, guard⟩ = operE E r c e s ⟨dst, .unOp op t x, ty, pos, aft, guard⟩ := by
  cases op <;> try rfl
  simp only [kUn]
  cases hx : e x with
  | none => rfl
  | some v =>
    cases v <;> try rfl
    rename_i b
    show Bool.rec (motive := fun _ => Option OR) (kbool true s) (kbool false s) b = _
    simp only [operE, pureOp, hx]
    cases b <;> simp only [kbool_eq] <;> rfl
theorem eq_fa (t : TypeId) (x : Operand) (f : Nat) : kFA t x f E r c e s ⟨dst, .fieldAddr t x f, ty, pos, aft, guard⟩ = operE E r c e s ⟨dst, .fieldAddr t x f, ty, pos, aft, guard⟩ := by
  simp only [kFA, kwith_eq]
  cases hx : e x with
  | none => rfl
  | some v =>
    simp only [kFA1, kwithT_eq, kget_eq]
    cases ht : E.T.get t with
    | none => rfl
    | some i =>
      simp only [kFA2]
      cases hd : i.d <;> try rfl
      rename_i fs
      show kptr v (kFA3 (knth fs f)) E r c e s _ = _
      rw [kptr_eq, knth_eq]
      split
      · rename_i b o'
        cases hf : fs[f]? with
        | none => rfl
        | some p =>
          obtain ⟨off, u⟩ := p
          show kwithT (kget E.T u) (kFA5 b o' off) E r c e s _ = _
          rw [kwithT_eq, kget_eq]
          cases hu : E.T.get u with
          | none => rfl
          | some ti =>
            simp only [kFA5]
            cases hz : ti.size with
            | zero => rfl
            | succ n =>
              have hb : Nat.beq (n + 1) 0 = false := rfl
              simp only [operE, pureOp, hx, tget, ht, hd, fieldOf, hf, hu, hz, hb, cond_false]; rfl
      · rfl
theorem eq_ia (t : TypeId) (x i : Operand) : kIA t x i E r c e s ⟨dst, .indexAddr t x i, ty, pos, aft, guard⟩ = operE E r c e s ⟨dst, .indexAddr t x i, ty, pos, aft, guard⟩ := by
  simp only [kIA, kwith_eq]
  cases hx : e x with
  | none => rfl
  | some v =>
    simp only [kIA1, kwith_eq]
    cases hi : e i with
    | none => rfl
    | some iv =>
      simp only [kIA1b, kwithN_eq, knat_eq]
      cases hn : natOf iv with
      | none => rfl
      | some n =>
        simp only [kIA2]
        cases v <;> try rfl
        · rename_i a
          show kwithT (kget E.T t) (kIA3p (.pointer a) n) E r c e s _ = _
          rw [kwithT_eq, kget_eq]
          cases ht : E.T.get t with
          | none => rfl
          | some ti =>
            simp only [kIA3p, kptr_eq]
            split
            · rename_i b o' heq
              simp only [Value.pointer.injEq] at heq
              subst heq
              simp only [kIA4a]
              cases hd : ti.d <;> try rfl
              rename_i len et
              show kwithT (kget E.T et) (kIA5 b o' n len) E r c e s _ = _
              rw [kwithT_eq, kget_eq]
              cases he : E.T.get et with
              | none => rfl
              | some ei =>
                simp only [kIA5]
                cases hl : Nat.ble (Nat.succ n) len with
                | false => rfl
                | true =>
                  have hl' : Nat.blt n len = true := hl
                  simp only [operE, pureOp, hx, hi, tget, ht, hd, hn, he, hl', cond_true]; rfl
            · rfl
        · rename_i a len cap
          cases a with
          | none => rfl
          | some a =>
            obtain ⟨b, o', sp⟩ := a
            cases sp with
            | some sp => rfl
            | none =>
              show kwithT (kget E.T t) (kIA4s len n b o') E r c e s _ = _
              rw [kwithT_eq, kget_eq]
              cases ht : E.T.get t with
              | none => rfl
              | some ti =>
                simp only [kIA4s]
                cases hd : ti.d <;> try rfl
                rename_i et
                show kwithT (kget E.T et) (kIA5 b o' n len) E r c e s _ = _
                rw [kwithT_eq, kget_eq]
                cases he : E.T.get et with
                | none => rfl
                | some ei =>
                  simp only [kIA5]
                  cases hl : Nat.ble (Nat.succ n) len with
                  | false => rfl
                  | true =>
                    have hl' : Nat.blt n len = true := hl
                    simp only [operE, pureOp, hx, hi, tget, ht, hd, hn, he, hl', cond_true]; rfl
theorem eq_ext (x : Operand) (i : Nat) : kExt x i E r c e s ⟨dst, .extract x i, ty, pos, aft, guard⟩ = operE E r c e s ⟨dst, .extract x i, ty, pos, aft, guard⟩ := by
  simp only [kExt, kwith_eq]
  cases hx : e x with
  | none => rfl
  | some v =>
    simp only [kExt2]
    cases v <;> try rfl
    rename_i l
    obtain ⟨l⟩ := l
    show kval (knth l i) s = _
    rw [kval_eq, knth_eq]
    simp only [operE, pureOp, readOp, allocOp, effOp, hx]
    cases l[i]? <;> rfl
theorem eq_call (c' : Call) : kCallD c' E r c e s ⟨dst, .call c', ty, pos, aft, guard⟩ = operE E r c e s ⟨dst, .call c', ty, pos, aft, guard⟩ := by
  obtain ⟨f, args, ts⟩ := c'
  cases f with
  | invoke => rfl
  | value f =>
    show kCall f args.toList E r c e s _ = _
    simp only [kCall, operE]
    cases e f with
    | none => rfl
    | some fv =>
      show kCall3 fv (kops1 args.toList e) E r c e s _ = _
      rw [kops1_eq]
      cases ops1 e args.toList <;> rfl
  | builtin b =>
    cases b <;> try rfl
    show kLen args.toList ts.toList E r c e s _ = _
    cases ha : args.toList with
    | nil => rfl
    | cons x l =>
      cases l with
      | cons y l => rfl
      | nil =>
        cases hts : ts.toList with
        | nil => rfl
        | cons t l =>
          show kwith (e x) (kLen3 t) E r c e s _ = _
          rw [kwith_eq]
          cases hx : e x with
          | none => rfl
          | some v =>
            simp only [kLen3]
            cases v <;> try rfl
            rename_i a n cap
            show kwithT (kget E.T t) (kLen4 n) E r c e s _ = _
            rw [kwithT_eq, kget_eq]
            cases ht : E.T.get t with
            | none => rfl
            | some ti =>
              simp only [kLen4]
              cases hd : ti.d <;> try rfl
              simp only [operE, pureOp, ha, hts, hx, tget, ht, hd]; rfl
end
theorem koperE_eq (E : Env) (r : Rec) (c : Ctx) (e : Operand → Option Value) (s : St) (o : Oper) : koperE E r c e s o = operE E r c e s o := by
  obtain ⟨dst, op, ty, pos, aft, guard⟩ := o
  cases op <;> try rfl
  · exact eq_move ..
  · exact eq_assign ..
  · exact eq_pick ..
  · exact eq_alloc ..
  · exact eq_box ..
  · exact eq_load ..
  · exact eq_store ..
  · exact eq_nil ..
  · exact eq_bin ..
  · exact eq_un ..
  · exact eq_fa ..
  · exact eq_ia ..
  · exact eq_ext ..
  · exact eq_call ..
end Go.U
end

section
namespace Go.U
set_option autoImplicit false

noncomputable def kslot (ops : List Oper) (j : Nat) : Option Tmp := Option.rec (motive := fun _ => Option Tmp) none (fun o => o.dst) (knth ops j)
theorem kslot_eq (ops : List Oper) (j : Nat) : kslot ops j = slotOf ops j := by
  simp only [kslot, knth_eq, slotOf]
  cases ops[j]? <;> rfl
noncomputable def kwant1 (v : Value) (want : Bool) : Option Bool := (show Bool → Option Bool from match v with
  | .bool b => fun want => Bool.rec (motive := fun _ => Option Bool) (Bool.rec (motive := fun _ => Option Bool) (some true) (some false) want) (Bool.rec (motive := fun _ => Option Bool) (some false) (some true) want) b
  | _ => fun _ => some false) want
noncomputable def kwantG (g : Option (Nat × Bool)) (ops : List Oper) (tm : List Value) : Option Bool :=
  Option.rec (motive := fun _ => List Oper → List Value → Option Bool) (fun _ _ => some true)
    (fun p ops tm => Option.rec (motive := fun _ => List Value → Bool → Option Bool) (fun _ _ => none) (fun t tm want => kwant1 (nth tm t) want) (kslot ops p.1) tm p.2) g ops tm
theorem kwantG_eq (ops : List Oper) (tm : List Value) (o : Oper) : kwantG o.guard ops tm = wantedF ops tm o := by
  simp only [wantedF]
  cases o.guard with
  | none => rfl
  | some p =>
    obtain ⟨j, want⟩ := p
    show Option.rec (motive := fun _ => List Value → Bool → Option Bool) (fun _ _ => none) (fun t tm want => kwant1 (nth tm t) want) (kslot ops j) tm want = _
    rw [kslot_eq]
    simp only []
    cases slotOf ops j with
    | none => rfl
    | some t =>
      show kwant1 (nth tm t) want = _
      rw [nth_eq]
      simp only []
      cases tm.getD t undef <;> try rfl
      rename_i b
      cases b <;> cases want <;> rfl
noncomputable def kputS (s : St) (d : Option Tmp) (v : Value) : St := St.rec (motive := fun _ => Option Tmp → Value → St) (fun tm df H bm d v => ⟨kputT tm d v, df, H, bm⟩) s d v
theorem kputS_eq (s : St) (d : Option Tmp) (v : Value) : kputS s d v = { s with tm := putT s.tm d v } := by
  obtain ⟨tm, df, H, bm⟩ := s
  show (⟨kputT tm d v, df, H, bm⟩ : St) = _
  rw [kputT_eq]
abbrev RK := Env → Rec → Ctx → List Oper → St → Option (X × St)
noncomputable def kreg2 (x : Option OR) (o : Oper) (ih : RK) (E : Env) (r : Rec) (c : Ctx) (ops : List Oper) : Option (X × St) :=
  Option.rec (motive := fun _ => Oper → RK → Env → Rec → Ctx → List Oper → Option (X × St)) (fun _ _ _ _ _ _ => none)
    (fun y => OR.rec (motive := fun _ => Oper → RK → Env → Rec → Ctx → List Oper → Option (X × St)) (fun v s1 _ o ih E r c ops => ih E r c ops (kputS s1 o.dst v)) (fun v s1 _ _ _ _ _ _ => some (.pan v, s1)) y) x o ih E r c ops
noncomputable def kreg1 (o : Oper) (ih : RK) (E : Env) (r : Rec) (c : Ctx) (ops : List Oper) (s : St) : Option (X × St) :=
  Option.rec (motive := fun _ => Oper → RK → RK) (fun _ _ _ _ _ _ _ => none)
    (fun b => Bool.rec (motive := fun _ => Oper → RK → RK) (fun o ih E r c ops s => ih E r c ops (kputS s o.dst undef)) (fun o ih E r c ops s => kreg2 (koperE E r c (kopd s.tm) s o) o ih E r c ops) b) (kwantG o.guard ops s.tm) o ih E r c ops s
noncomputable def kregion (l : List Oper) : RK :=
  List.rec (motive := fun _ => RK) (fun _ _ _ _ s => some (.nrm, s))
    (fun o _ ih E r c ops s => St.rec (motive := fun _ => Oper → RK → Env → Rec → Ctx → List Oper → Option (X × St)) (fun tm df H bm o ih E r c ops => kreg1 o ih E r c ops ⟨tm, df, H, bm⟩) s o ih E r c ops) l
theorem kregion_eq (E : Env) (r : Rec) (c : Ctx) (ops : List Oper) : ∀ (l : List Oper) (s : St), kregion l E r c ops s = region E r c ops l s
  | [], s => rfl
  | o :: l, s => by
    have ih := kregion_eq E r c ops l
    obtain ⟨tm, df, H, bm⟩ := s
    show kreg1 o (kregion l) E r c ops ⟨tm, df, H, bm⟩ = _
    simp only [region, kreg1, kwantG_eq]
    cases wantedF ops tm o with
    | none => rfl
    | some b =>
      cases b with
      | false => exact (ih _).trans (by rw [kputS_eq])
      | true =>
        show kreg2 (koperE E r c (kopd tm) ⟨tm, df, H, bm⟩ o) o (kregion l) E r c ops = _
        rw [koperE_eq, kopd_eq]
        show kreg2 (oper E r c ⟨tm, df, H, bm⟩ o) o (kregion l) E r c ops = _
        simp only []
        cases oper E r c ⟨tm, df, H, bm⟩ o with
        | none => rfl
        | some y =>
          cases y with
          | val v s1 q => exact (ih _).trans (by rw [kputS_eq])
          | pan v s1 => rfl

/-! ### regions that draw -/
noncomputable def kus (us : List Nat) : Nat → Nat :=
  List.rec (motive := fun _ => Nat → Nat) (fun _ => 0) (fun a _ ih n => Nat.rec (motive := fun _ => Nat) a (fun k _ => ih k) n) us
theorem kus_eq : ∀ (l : List Nat) (n : Nat), kus l n = l.getD n 0
  | [], _ => by simp [kus]
  | _ :: _, 0 => rfl
  | _ :: l, n + 1 => (kus_eq l n).trans (by simp)
abbrev DK := Env → Rec → Ctx → List Oper → Nat → List Nat → Nat → Oper → Nat → SD → Option SD
noncomputable def ksdE2 (x : Option Nat) (v : Value) (s1 : St) (o : Oper) (i : Nat) (d : SD) : Option SD :=
  Option.rec (motive := fun _ => Value → St → Oper → Nat → SD → Option SD) (fun v s1 o _ d => some ⟨kputS s1 o.dst v, d.fs, d.ss⟩)
    (fun b v s1 o i d => Bool.rec (motive := fun _ => Option SD) (some ⟨kputS s1 o.dst v, d.fs, (i, b, cleanE d.s.H b o.op) :: d.ss⟩) none (hitF i b (cleanE d.s.H b o.op) d.fs)) x v s1 o i d
noncomputable def ksdE (v : Value) (s1 : St) : DK := fun _ _ _ _ k _ _ o i d =>
  Bool.rec (motive := fun _ => Value → St → Oper → Nat → SD → Option SD) (fun _ _ _ _ _ => none) (fun v s1 o i d => ksdE2 (tgt (kopd d.s.tm) o.op) v s1 o i d) (kbit k i) v s1 o i d
noncomputable def ksdQ (v : Value) (s1 : St) : DK := fun E r c ops k us n0 o i d =>
  Nat.rec (motive := fun _ => Value → St → DK) (fun v s1 _ _ _ _ _ _ _ o _ d => some ⟨kputS s1 o.dst v, d.fs, d.ss⟩) (fun _ _ _ _ E r c ops k us n0 o i d => stepD E r c ops k us n0 o i d) (kus us i) v s1 E r c ops k us n0 o i d
noncomputable def ksd2 (x : Option OR) : DK := fun E r c ops k us n0 o i d =>
  Option.rec (motive := fun _ => DK) (fun _ _ _ _ _ _ _ _ _ _ => none)
    (fun y => OR.rec (motive := fun _ => DK) (fun v s1 q E r c ops k us n0 o i d => Bool.rec (motive := fun _ => Value → St → DK) (fun v s1 E r c ops k us n0 o i d => ksdE v s1 E r c ops k us n0 o i d) (fun v s1 E r c ops k us n0 o i d => ksdQ v s1 E r c ops k us n0 o i d) q v s1 E r c ops k us n0 o i d)
      (fun _ _ _ _ _ _ _ _ _ _ _ _ => none) y) x E r c ops k us n0 o i d
noncomputable def kstepD : DK := fun E r c ops k us n0 o i d =>
  Option.rec (motive := fun _ => DK) (fun _ _ _ _ _ _ _ _ _ _ => none)
    (fun b => Bool.rec (motive := fun _ => DK) (fun _ _ _ _ _ _ _ o _ d => some ⟨kputS d.s o.dst undef, d.fs, d.ss⟩) (fun E r c ops k us n0 o i d => ksd2 (koperE E r c (kopd d.s.tm) d.s o) E r c ops k us n0 o i d) b) (kwantG o.guard ops d.s.tm) E r c ops k us n0 o i d
theorem kstepD_eq (E : Env) (r : Rec) (c : Ctx) (ops : List Oper) (k : Nat) (us : List Nat) (n0 : Nat) (o : Oper) (i : Nat) (d : SD) : kstepD E r c ops k us n0 o i d = stepD E r c ops k us n0 o i d := by
  simp only [kstepD, kwantG_eq]
  cases hw : wantedF ops d.s.tm o with
  | none => simp only [stepD, hw]
  | some b =>
    cases b with
    | false =>
      show some (⟨kputS d.s o.dst undef, d.fs, d.ss⟩ : SD) = _
      simp only [stepD, hw, kputS_eq]
    | true =>
      show ksd2 (koperE E r c (kopd d.s.tm) d.s o) E r c ops k us n0 o i d = _
      rw [koperE_eq, kopd_eq]
      show ksd2 (oper E r c d.s o) E r c ops k us n0 o i d = _
      cases ho : oper E r c d.s o with
      | none => simp only [stepD, hw, ho]; rfl
      | some y =>
        cases y with
        | pan v s1 => simp only [stepD, hw, ho]; rfl
        | val v s1 q =>
          cases q with
          | true =>
            show ksdQ v s1 E r c ops k us n0 o i d = _
            simp only [ksdQ, kus_eq]
            cases hu : us.getD i 0 with
            | zero =>
              show some (⟨kputS s1 o.dst v, d.fs, d.ss⟩ : SD) = _
              simp only [stepD, hw, ho, hu, kputS_eq]
            | succ u => rfl
          | false =>
            show ksdE v s1 E r c ops k us n0 o i d = _
            simp only [ksdE, kbit_eq]
            cases hk : k.testBit i with
            | false => simp only [stepD, hw, ho, hk, cond_false]
            | true =>
              show ksdE2 (tgt (kopd d.s.tm) o.op) v s1 o i d = _
              rw [kopd_eq]
              simp only [stepD, hw, ho, hk, cond_true]
              cases tgt (opd d.s.tm) o.op with
              | none =>
                show some (⟨kputS s1 o.dst v, d.fs, d.ss⟩ : SD) = _
                rw [kputS_eq]
              | some b =>
                show Bool.rec (motive := fun _ => Option SD) (some ⟨kputS s1 o.dst v, d.fs, (i, b, cleanE d.s.H b o.op) :: d.ss⟩) none (hitF i b (cleanE d.s.H b o.op) d.fs) = _
                rw [kputS_eq]
                simp only []
                cases hitF i b (cleanE d.s.H b o.op) d.fs <;> rfl
abbrev RDK := Env → Rec → Ctx → List Oper → Nat → List Nat → Nat → Nat → SD → Option (X × St)
/-- The end of a region that draws, if an operation does not end well. -/
def endD (E : Env) (r : Rec) (c : Ctx) (ops : List Oper) (k : Nat) (o : Oper) (l : List Oper) (i : Nat) (d : SD) : Option (X × St) :=
  match l, k.testBit i, wantedF ops d.s.tm o, oper E r c d.s o with
  | [], true, some true, some (.pan v s1) => some (.pan v, { s1 with tm := topAll ops s1.tm })
  | _, _, _, _ => none
noncomputable def kregD1 (x : Option SD) (o : Oper) (l : List Oper) (ih : RDK) : RDK := fun E r c ops k us n0 i d =>
  Option.rec (motive := fun _ => Oper → List Oper → RDK → RDK) (fun o l _ E r c ops k _ _ i d => endD E r c ops k o l i d)
    (fun d1 _ _ ih E r c ops k us n0 i _ => SD.rec (motive := fun _ => RDK → Env → Rec → Ctx → List Oper → Nat → List Nat → Nat → Nat → Option (X × St))
      (fun s fs ss ih E r c ops k us n0 i => St.rec (motive := fun _ => List (Nat × Nat × Bool) → List (Nat × Nat × Bool) → RDK → Env → Rec → Ctx → List Oper → Nat → List Nat → Nat → Nat → Option (X × St))
        (fun tm df H bm fs ss ih E r c ops k us n0 i => ih E r c ops k us n0 (Nat.succ i) ⟨⟨tm, df, H, bm⟩, fs, ss⟩) s fs ss ih E r c ops k us n0 i) d1 ih E r c ops k us n0 i) x o l ih E r c ops k us n0 i d
noncomputable def kregionD (l : List Oper) : RDK :=
  List.rec (motive := fun _ => RDK) (fun _ _ _ _ _ _ _ _ d => some (.nrm, d.s))
    (fun o l ih E r c ops k us n0 i d => kregD1 (kstepD E r c ops k us n0 o i d) o l ih E r c ops k us n0 i d) l
theorem kregionD_eq (E : Env) (r : Rec) (c : Ctx) (ops : List Oper) (k : Nat) (us : List Nat) (n0 : Nat) : ∀ (l : List Oper) (i : Nat) (d : SD), kregionD l E r c ops k us n0 i d = regionD E r c ops k us n0 l i d
  | [], _, _ => rfl
  | o :: l, i, d => by
    have ih := kregionD_eq E r c ops k us n0 l
    show kregD1 (kstepD E r c ops k us n0 o i d) o l (kregionD l) E r c ops k us n0 i d = _
    rw [kstepD_eq]
    simp only [regionD]
    cases stepD E r c ops k us n0 o i d with
    | none => rfl
    | some d1 =>
      obtain ⟨⟨tm, df, H, bm⟩, fs, ss⟩ := d1
      exact ih (i + 1) _

/-! ### code -/
abbrev CK := Env → Rec → Ctx → St → Option (X × St)
noncomputable def kregB (draw : Bool) (id : Nat) (ops : List Oper) : CK := fun E r c s =>
  Bool.rec (motive := fun _ => Nat → List Oper → CK) (fun _ ops E r c s => kregion ops E r c ops s)
    (fun id ops E r c s => Option.rec (motive := fun _ => List Oper → CK) (fun _ _ _ _ _ => none) (fun p ops E r c s => kregionD ops E r c ops p.1 p.2 s.H.next 0 ⟨s, [], []⟩) (maskOf E c.fn id) ops E r c s) draw id ops E r c s
noncomputable def kseq1 (x : Option (X × St)) (ib : CK) (E : Env) (r : Rec) (c : Ctx) : Option (X × St) :=
  Option.rec (motive := fun _ => CK → Env → Rec → Ctx → Option (X × St)) (fun _ _ _ _ => none)
    (fun p ib E r c => Prod.rec (motive := fun _ => CK → Env → Rec → Ctx → Option (X × St)) (fun x s1 => X.rec (motive := fun _ => St → CK → Env → Rec → Ctx → Option (X × St)) (fun s1 ib E r c => ib E r c s1) (fun s1 _ _ _ _ => some (.ret, s1)) (fun id s1 _ _ _ _ => some (.exit id, s1)) (fun v s1 _ _ _ _ => some (.pan v, s1)) x s1) p ib E r c) x ib E r c
noncomputable def kcond1 (x : Option Value) (ia ib : CK) (E : Env) (r : Rec) (c : Ctx) (s : St) : Option (X × St) :=
  Option.rec (motive := fun _ => CK → CK → CK) (fun _ _ _ _ _ _ => none)
    (fun v ia ib E r c s => (show CK → CK → CK from match v with
      | .bool b => Bool.rec (motive := fun _ => CK → CK → CK) (fun _ ib E r c s => ib E r c s) (fun ia _ E r c s => ia E r c s) b
      | _ => fun _ _ _ _ _ _ => none) ia ib E r c s) x ia ib E r c s
noncomputable def kblock1 (x : Option (X × St)) (id : Nat) : Option (X × St) :=
  Option.rec (motive := fun _ => Nat → Option (X × St)) (fun _ => none)
    (fun p id => Prod.rec (motive := fun _ => Nat → Option (X × St)) (fun x s1 => X.rec (motive := fun _ => St → Nat → Option (X × St)) (fun s1 _ => some (.nrm, s1)) (fun s1 _ => some (.ret, s1)) (fun j s1 id => Bool.rec (motive := fun _ => Option (X × St)) (some (.exit j, s1)) (some (.nrm, s1)) (Nat.beq j id)) (fun v s1 _ => some (.pan v, s1)) x s1) p id) x id
noncomputable def kiter1 (x : Option (X × St)) (ih : St → Option (X × St)) : Option (X × St) :=
  Option.rec (motive := fun _ => (St → Option (X × St)) → Option (X × St)) (fun _ => none)
    (fun p ih => Prod.rec (motive := fun _ => (St → Option (X × St)) → Option (X × St)) (fun x s1 => X.rec (motive := fun _ => St → (St → Option (X × St)) → Option (X × St)) (fun s1 ih => ih s1) (fun s1 _ => some (.ret, s1)) (fun id s1 _ => some (.exit id, s1)) (fun v s1 _ => some (.pan v, s1)) x s1) p ih) x ih
noncomputable def kiter (f : St → Option (X × St)) (n : Nat) : St → Option (X × St) :=
  Nat.rec (motive := fun _ => St → Option (X × St)) (fun _ => none) (fun _ ih s => kiter1 (f s) ih) n
theorem kiter_eq (f : St → Option (X × St)) : ∀ (n : Nat) (s : St), kiter f n s = iter f n s
  | 0, _ => rfl
  | n + 1, s => by
    have ih := kiter_eq f n
    show kiter1 (f s) (kiter f n) = _
    simp only [iter]
    cases f s with
    | none => rfl
    | some p =>
      obtain ⟨x, s1⟩ := p
      cases x <;> first | exact ih _ | rfl
noncomputable def krf (x : Option Value) (ps : List Tmp) (asg body : Code) (E : Env) (r : Rec) (c : Ctx) (s : St) : Option (X × St) :=
  Option.rec (motive := fun _ => List Tmp → Code → Code → CK) (fun _ _ _ _ _ _ _ => none) (fun fv ps asg body E r c s => rangeIn E r c fv ps asg body s) x ps asg body E r c s
noncomputable def kcodeF (x : Code) : CK :=
  Code.rec (motive := fun _ => CK)
    (fun _ _ _ s => some (.nrm, s))
    (fun id ops draw E r c s => kregB draw id ops.toList E r c s)
    (fun _ _ ia ib E r c s => kseq1 (ia E r c s) ib E r c)
    (fun x _ _ ia ib E r c s => kcond1 (kopd s.tm x) ia ib E r c s)
    (fun id _ ih E r c s => kblock1 (ih E r c s) id)
    (fun _ ih E r c s => kiter (ih E r c) LOOPS s)
    (fun f ps asg body _ _ E r c s => krf (kopd s.tm f) ps.toList asg body E r c s)
    (fun id _ _ _ s => some (.exit id, s))
    (fun _ ih E r c s => ih E r c s)
    (fun _ _ _ _ s => some (.nrm, s))
    (fun _ _ _ _ _ => none)
    (fun _ _ _ s => some (.ret, s))
    (fun _ _ _ _ _ => none) x
theorem kcodeF_eq (E : Env) (r : Rec) (c : Ctx) : ∀ (x : Code) (s : St), kcodeF x E r c s = codeF E r c x s := by
  intro x
  induction x with
  | skip => intro s; rfl
  | region id ops draw =>
    intro s
    cases draw with
    | false => exact kregion_eq E r c ops.toList ops.toList s
    | true =>
      show Option.rec (motive := fun _ => List Oper → CK) (fun _ _ _ _ _ => none) (fun p ops E r c s => kregionD ops E r c ops p.1 p.2 s.H.next 0 ⟨s, [], []⟩) (maskOf E c.fn id) ops.toList E r c s = _
      simp only [codeF, cond_true]
      cases maskOf E c.fn id with
      | none => rfl
      | some p => exact kregionD_eq ..
  | seq a b iha ihb =>
    intro s
    show kseq1 (kcodeF a E r c s) (kcodeF b) E r c = _
    rw [iha]
    simp only [codeF]
    cases codeF E r c a s with
    | none => rfl
    | some p =>
      obtain ⟨x, s1⟩ := p
      cases x <;> first | exact ihb _ | rfl
  | cond x a b iha ihb =>
    intro s
    show kcond1 (kopd s.tm x) (kcodeF a) (kcodeF b) E r c s = _
    rw [kopd_eq]
    simp only [codeF]
    cases opd s.tm x with
    | none => rfl
    | some v =>
      cases v <;> try rfl
      rename_i q
      cases q
      · exact ihb s
      · exact iha s
  | block id a ih =>
    intro s
    show kblock1 (kcodeF a E r c s) id = _
    rw [ih]
    simp only [codeF]
    cases codeF E r c a s with
    | none => rfl
    | some p =>
      obtain ⟨x, s1⟩ := p
      cases x <;> try rfl
      rename_i j
      show Bool.rec (motive := fun _ => Option (X × St)) (some (.exit j, s1)) (some (.nrm, s1)) (Nat.beq j id) = _
      simp only []
      cases Nat.beq j id <;> rfl
  | loop a ih =>
    intro s
    show kiter (kcodeF a E r c) LOOPS s = _
    rw [kiter_eq, show kcodeF a E r c = codeF E r c a from funext ih]
    rfl
  | rangeFunc f ps asg body =>
    intro s
    show krf (kopd s.tm f) ps.toList asg body E r c s = _
    rw [kopd_eq]
    simp only [codeF]
    cases opd s.tm f <;> rfl
  | exit id => intro s; rfl
  | scope a ih => intro s; exact (ih s).trans (by simp only [codeF])
  | label l => intro s; rfl
  | goto l => intro s; rfl
  | ret => intro s; rfl
  | refuse w => intro s; rfl
noncomputable def kbody4 (x : Option Value) (bm : BM) (H1 : AH) : Option (AEnd × BM × AH) := Option.rec (motive := fun _ => BM → AH → Option (AEnd × BM × AH)) (fun _ _ => none) (fun v bm H1 => some (.ret v, bm, H1)) x bm H1
noncomputable def kbody3 (x : Option (BM × AH)) (E : Env) (fn : Func) (s : St) : Option (AEnd × BM × AH) := match x with
  | some (.ret, H1) => kbody4 (resF E fn s.tm H1) s.bm H1
  | some (.pan v false, H1) => some (.pan v, s.bm, H1)
  | _ => none
noncomputable def kbody2 (x : Option (X × St)) (E : Env) (r : Rec) (fn : Func) : Option (AEnd × BM × AH) :=
  Option.rec (motive := fun _ => Env → Rec → Func → Option (AEnd × BM × AH)) (fun _ _ _ => none) (fun p E r fn => kbody3 (leaveX r p.2.df p.2.H p.1) E fn p.2) x E r fn
noncomputable def kbody1 (x : Option Code) (fn : Func) (E : Env) (r : Rec) (f : FuncId) (args : List Value) (bm : BM) (H : AH) : Option (AEnd × BM × AH) :=
  Option.rec (motive := fun _ => Func → Env → Rec → FuncId → List Value → BM → AH → Option (AEnd × BM × AH)) (fun _ _ _ _ _ _ _ => none)
    (fun x fn E r f args bm H => kbody2 (kcodeF x E r ⟨f, none⟩ ⟨tmps0 fn.ntmps args, [], H, bm⟩) E r fn) x fn E r f args bm H
noncomputable def kbodyF (E : Env) (r : Rec) (f : FuncId) (args : List Value) (bm : BM) (H : AH) : Option (AEnd × BM × AH) :=
  Option.rec (motive := fun _ => Env → Rec → FuncId → List Value → BM → AH → Option (AEnd × BM × AH)) (fun _ _ _ _ _ _ => none)
    (fun fn E r f args bm H => kbody1 fn.body fn E r f args bm H) (kget E.F f) E r f args bm H
theorem kbodyF_eq (E : Env) (r : Rec) (f : FuncId) (args : List Value) (bm : BM) (H : AH) : kbodyF E r f args bm H = bodyF E r f args bm H := by
  simp only [kbodyF, kget_eq, bodyF]
  cases E.F.get f with
  | none => rfl
  | some fn =>
    show kbody1 fn.body fn E r f args bm H = _
    simp only []
    cases fn.body with
    | none => rfl
    | some x =>
      show kbody2 (kcodeF x E r ⟨f, none⟩ ⟨tmps0 fn.ntmps args, [], H, bm⟩) E r fn = _
      rw [kcodeF_eq]
      simp only []
      cases codeF E r ⟨f, none⟩ x ⟨tmps0 fn.ntmps args, [], H, bm⟩ with
      | none => rfl
      | some p =>
        obtain ⟨y, s⟩ := p
        show kbody3 (leaveX r s.df s.H y) E fn s = _
        simp only [kbody3]
        split <;> first | rfl | skip
        all_goals first
          | (rename_i heq; simp only [heq]; done)
          | (rename_i H1 heq; simp only [heq]; cases resF E fn s.tm H1 <;> rfl)
          | skip
noncomputable def kend (x : Option (AEnd × BM × AH)) : Option (AEnd × AH) := Option.rec (motive := fun _ => Option (AEnd × AH)) none (fun p => some (p.1, p.2.2)) x
def kendD (x : Option (AEnd × BM × AH)) : Option (BM × AH) := match x with
  | some (.ret _, m1, H1) => some (m1, H1)
  | _ => none
noncomputable def kev (E : Env) (n : Nat) : Rec :=
  Nat.rec (motive := fun _ => Rec) ⟨fun _ _ _ => none, fun _ _ _ _ => none, fun _ _ _ => none⟩
    (fun _ ih => ⟨fun f args H => kend (kbodyF E ih f args .no H), fun f args m H => kendD (kbodyF E ih f args m H), fun c x s => kcodeF x E ih c s⟩) n
theorem kev_eq (E : Env) : ∀ n, kev E n = ev E n
  | 0 => rfl
  | n + 1 => by
    have ih := kev_eq E n
    show (⟨fun f args H => kend (kbodyF E (kev E n) f args .no H), fun f args m H => kendD (kbodyF E (kev E n) f args m H), fun c x s => kcodeF x E (kev E n) c s⟩ : Rec) = _
    simp only [ih, kbodyF_eq, kcodeF_eq, ev]
    congr
    funext f args H
    cases bodyF E (ev E n) f args .no H <;> rfl
end Go.U
end

section
namespace Go.U
set_option autoImplicit false

abbrev N (n : Nat) : Value := .int .i64 (.ofNat n)
abbrev Zn (n : Nat) : Value := .int .i64 (.negSucc n)
abbrev Pt (b o : Nat) : Value := .pointer (some ⟨b, o, none⟩)
abbrev Sl (b o n c : Nat) : Value := .slice (some ⟨b, o, none⟩) n c
abbrev Mp (b : Nat) : Value := .map (some b)
abbrev Fu (f : Nat) : Value := .func (.func f) ⟨[]⟩ ⟨[]⟩
abbrev Cl (f : Nat) (l : List Value) : Value := .func (.func f) ⟨[]⟩ ⟨l⟩
abbrev Ag (l : List Value) : Value := .agg ⟨l⟩
abbrev Tu (l : List Value) : Value := .tuple ⟨l⟩
abbrev By (l : List UInt8) : Value := .string ⟨⟨l⟩⟩
abbrev If (t : Nat) (v : Value) : Value := .iface t v
abbrev Ks (l : List Value) (T : Nat) : AO := .cells l T none
abbrev Gs (l : List Value) (T i : Nat) : AO := .cells l T (some i)

/-- The first entry that can be used. -/
noncomputable def firstE (f : FuncId) (args : List Value) (H : AH) (l : List Ent) : Option (Option (Value × AH)) :=
  List.rec (motive := fun _ => Option (Option (Value × AH))) none (fun x _ ih => (show Option (Option (Value × AH)) → Option (Option (Value × AH)) from
    match (match Nat.beq x.f f with | true => applyE x args H | false => none) with
    | some r => fun _ => some (some r)
    | none => fun ih => ih) ih) l
theorem firstE_spec {f : FuncId} {args : List Value} {H : AH} {r : Value × AH} : ∀ {l : List Ent}, firstE f args H l = some (some r) → ∃ x, x ∈ l ∧ x.f = f ∧ applyE x args H = some r
  | [], h => by simp [firstE] at h
  | x :: l, h => by
    have hd : firstE f args H (x :: l) = (match (match Nat.beq x.f f with | true => applyE x args H | false => none) with
      | some r => some (some r)
      | none => firstE f args H l) := by
      show (show Option (Option (Value × AH)) → Option (Option (Value × AH)) from
        match (match Nat.beq x.f f with | true => applyE x args H | false => none) with
        | some r => fun _ => some (some r)
        | none => fun ih => ih) (firstE f args H l) = _
      cases (match Nat.beq x.f f with | true => applyE x args H | false => none) <;> rfl
    rw [hd] at h
    cases hb : Nat.beq x.f f with
    | false =>
      simp only [hb] at h
      obtain ⟨y, h1, h2⟩ := firstE_spec h
      exact ⟨y, List.mem_cons_of_mem _ h1, h2⟩
    | true =>
      simp only [hb] at h
      have hf : x.f = f := by simpa using hb
      cases ha : applyE x args H with
      | some q => rw [ha] at h; simp at h; exact ⟨x, List.mem_cons_self .., hf, by rw [ha, h]⟩
      | none =>
        rw [ha] at h
        obtain ⟨y, h1, h2⟩ := firstE_spec h
        exact ⟨y, List.mem_cons_of_mem _ h1, h2⟩
theorem firstE_none {f : FuncId} {args : List Value} {H : AH} : ∀ {l : List Ent}, firstE f args H l ≠ some none
  | [], h => by simp [firstE] at h
  | x :: l, h => by
    have hd : firstE f args H (x :: l) = (match (match Nat.beq x.f f with | true => applyE x args H | false => none) with
      | some r => some (some r)
      | none => firstE f args H l) := by
      show (show Option (Option (Value × AH)) → Option (Option (Value × AH)) from
        match (match Nat.beq x.f f with | true => applyE x args H | false => none) with
        | some r => fun _ => some (some r)
        | none => fun ih => ih) (firstE f args H l) = _
      cases (match Nat.beq x.f f with | true => applyE x args H | false => none) <;> rfl
    rw [hd] at h
    split at h
    · simp at h
    · exact firstE_none h
/-- Summaries, and a table behind them. -/
noncomputable def tabS (tab : Tr (List Ent)) (S : FuncId → List Value → AH → Option (Option (Value × AH))) (f : FuncId) (args : List Value) (H : AH) : Option (Option (Value × AH)) :=
  (show (Tr (List Ent)) → FuncId → List Value → AH → Option (Option (Value × AH)) from match S f args H with
  | some r => fun _ _ _ _ => some r
  | none => fun tab f args H => (show FuncId → List Value → AH → Option (Option (Value × AH)) from match kget tab f with
    | some l => fun f args H => firstE f args H l
    | none => fun _ _ _ => none) f args H) tab f args H
theorem tabS_spec {tab : Tr (List Ent)} {S : FuncId → List Value → AH → Option (Option (Value × AH))} {f : FuncId} {args : List Value} {H : AH} {r : Value × AH} (h : tabS tab S f args H = some (some r)) :
    S f args H = some (some r) ∨ ∃ l x, tab.get f = some l ∧ x ∈ l ∧ x.f = f ∧ applyE x args H = some r := by
  simp only [tabS, kget_eq] at h
  cases hS : S f args H with
  | some q => rw [hS] at h; exact .inl h
  | none =>
    rw [hS] at h
    simp only [] at h
    cases ht : tab.get f with
    | none => rw [ht] at h; simp at h
    | some l =>
      rw [ht] at h
      obtain ⟨x, h1, h2, h3⟩ := firstE_spec h
      exact .inr ⟨l, x, rfl, h1, h2, h3⟩
noncomputable def ext (E : Env) (tab : Tr (List Ent)) : Env := { E with S := tabS tab E.S }
theorem codeOK_ext (E : Env) (tab : Tr (List Ent)) (f : FuncId) (c : Code) : codeOK (ext E tab) f c = codeOK E f c := by
  have hm : ∀ f id, maskOf (ext E tab) f id = maskOf E f id := fun _ _ => rfl
  induction c <;> simp_all [codeOK]
theorem KE_ext (E : Env) (tab : Tr (List Ent)) (P : Program) (B : Nat) (gl : GL) : KE (ext E tab) P B gl = KE E P B gl := by
  have : KEc (ext E tab) P = KEc E P := by funext f c; simp only [KEc, codeOK_ext]
  simp only [KE, this]
/-- All that the soundness of the evaluator asks. -/
structure Ok (P : Program) (B : Nat) (gl : GL) (E : Env) : Prop where
  hM : P.follows .mixedOrders = true
  hT : TOK E.T P
  hI : EnvI P E
  hS : EnvS (KE E P B gl) P E
  hE : EnvA E
  hF : FOK E P
theorem Ok.sound {P : Program} {B : Nat} {gl : GL} {E : Env} (h : Ok P B gl E) (n : Nat) : RecS (KE E P B gl) P (ev E n) :=
  ev_sound h.hM h.hT h.hI h.hS h.hE h.hF n
def AllP (p : Ent → Prop) : List Ent → Prop
  | [] => True
  | x :: l => p x ∧ AllP p l
def TabOK (p : Ent → Prop) : Tr (List Ent) → Prop
  | .lf => True
  | .nd v l r => (match v with | none => True | some xs => AllP p xs) ∧ TabOK p l ∧ TabOK p r
theorem AllP.mem {p : Ent → Prop} : ∀ {l : List Ent}, AllP p l → ∀ x, x ∈ l → p x
  | [], _, x, h => by simp at h
  | y :: l, h, x, hx => by
    rcases List.mem_cons.1 hx with rfl | hx
    · exact h.1
    · exact AllP.mem h.2 x hx
theorem TabOK.mem {p : Ent → Prop} : ∀ {t : Tr (List Ent)}, TabOK p t → ∀ k l, t.get k = some l → ∀ x, x ∈ l → p x
  | .lf, _, k, l, h => by simp [Tr.get] at h
  | .nd v a b, ht, k, l, h => by
    simp only [Tr.get] at h
    cases h0 : Nat.beq k 0 with
    | true =>
      simp only [h0, cond_true] at h
      subst h
      exact AllP.mem ht.1
    | false =>
      simp only [h0, cond_false] at h
      cases h1 : Nat.beq ((k - 1) % 2) 0 with
      | true => simp only [h1, cond_true] at h; exact TabOK.mem ht.2.1 _ _ h
      | false => simp only [h1, cond_false] at h; exact TabOK.mem ht.2.2 _ _ h
theorem ext_ok {P : Program} {B : Nat} {gl : GL} {E : Env} (h : Ok P B gl E) {n : Nat} {tab : Tr (List Ent)} (ht : TabOK (fun x => chkE (kev E n) x = true) tab) : Ok P B gl (ext E tab) where
  hM := h.hM
  hT := h.hT
  hI := fun t nm f off rt hf m v v' rv w hv hp => h.hI t nm f off rt hf m v v' rv w hv hp
  hS := by
    rw [KE_ext]
    intro f args H v H1 hs m w args' hR ha
    rcases tabS_spec hs with hs | ⟨l, x, h1, h2, h3, h4⟩
    · exact h.hS f args H v H1 hs m w args' hR ha
    · have hc := ht.mem f l h1 x h2
      rw [kev_eq] at hc
      have := (ent_sound (h.sound n) hc h4).2 m w args' hR ha
      rw [h3] at this
      exact this
  hE := by
    intro f args H v H1 hs
    rcases tabS_spec hs with hs | ⟨l, x, h1, h2, h3, h4⟩
    · exact h.hE f args H v H1 hs
    · have hc := ht.mem f l h1 x h2
      rw [kev_eq] at hc
      exact (ent_sound (h.sound n) hc h4).1
  hF := fun f fn hf => by
    obtain ⟨h1, h2, h3⟩ := h.hF f fn hf
    exact ⟨h1, h2, fun c hc => by rw [codeOK_ext]; exact h3 c hc⟩
end Go.U
end

section
namespace Go.U
set_option autoImplicit false

def bytesV (l : List UInt8) : Value := .string ⟨⟨l⟩⟩
def digitsN : Nat → Nat → List UInt8 → List UInt8
  | 0, _, acc => acc
  | n + 1, k, acc => bif Nat.blt k 10 then UInt8.ofNat (48 + k) :: acc else digitsN n (k / 10) (UInt8.ofNat (48 + k % 10) :: acc)
theorem digitsN_eq : ∀ (n k : Nat) (acc : List UInt8), k < 10 ^ (n + 1) → digitsN (n + 1) k acc = Lib.decDigits k ++ acc
  | 0, k, acc, h => by
    have h' : k < 10 := by simpa using h
    have hb : Nat.blt k 10 = true := by simp [Nat.blt]; omega
    rw [digitsN, hb, Lib.decDigits_one h']; rfl
  | n + 1, k, acc, h => by
    rw [digitsN]
    cases hb : Nat.blt k 10 with
    | true =>
      have h' : k < 10 := by simp [Nat.blt] at hb; omega
      rw [Lib.decDigits_one h']; rfl
    | false =>
      have h' : ¬ k < 10 := by
        intro h3
        have : Nat.blt k 10 = true := by simp [Nat.blt]; omega
        rw [this] at hb; cases hb
      have h2 : k / 10 < 10 ^ (n + 1) := by rw [Nat.pow_succ] at h; omega
      rw [cond_false, digitsN_eq n _ _ h2, Lib.decDigits.eq_def k, dif_neg h']
      simp
def itoaS : Int → Option (List UInt8)
  | .ofNat n => bif Nat.blt n 9223372036854775808 then some (digitsN 20 n []) else none
  | .negSucc _ => none
theorem itoaS_eq {n : Int} {l : List UInt8} (h : itoaS n = some l) : 0 ≤ n ∧ n ≤ 9223372036854775807 ∧ l = Lib.itoa n := by
  cases n with
  | negSucc n => simp [itoaS] at h
  | ofNat n =>
    simp only [itoaS] at h
    cases hb : Nat.blt n 9223372036854775808 with
    | false => simp [hb] at h
    | true =>
      have h' : n < 9223372036854775808 := by simp [Nat.blt] at hb; omega
      simp only [hb, cond_true, Option.some.injEq] at h
      subst h
      refine ⟨Int.natCast_nonneg n, by show (n : Int) ≤ _; omega, ?_⟩
      have hn : ¬ ((Int.ofNat n) < 0) := by show ¬ ((n : Int) < 0); omega
      rw [Lib.itoa, if_neg hn, digitsN_eq 19 n [] (by omega)]
      simp
def splitS (c : UInt8) : List UInt8 → List UInt8 → List (List UInt8)
  | [], cur => [cur.reverse]
  | b :: l, cur => bif Nat.beq b.toNat c.toNat then cur.reverse :: splitS c l [] else splitS c l (b :: cur)
def cutS (c : UInt8) : List UInt8 → List UInt8 → Option (List UInt8 × List UInt8)
  | [], _ => none
  | b :: l, cur => bif Nat.beq b.toNat c.toNat then some (cur.reverse, l) else cutS c l (b :: cur)
theorem beq8 (b c : UInt8) : Nat.beq b.toNat c.toNat = (b == c) := by
  cases h : (b == c) with
  | true => have := beq_iff_eq.1 h; subst this; simp
  | false =>
    cases h2 : Nat.beq b.toNat c.toNat with
    | false => rfl
    | true =>
      have : b.toNat = c.toNat := by simpa using h2
      have := UInt8.toNat.inj this
      subst this
      simp at h
theorem cut_none (c : UInt8) : ∀ (l cur : List UInt8), Lib.indexByte l c = -1 → cutS c l cur = none ∧ splitS c l cur = [cur.reverse ++ l]
  | [], cur, _ => by simp [cutS, splitS]
  | b :: l, cur, h => by
    simp only [Lib.indexByte] at h
    have hge := Lib.indexByte_ge l c
    cases hb : (b == c) with
    | true => simp [hb] at h
    | false =>
      simp only [hb, Bool.false_eq_true, if_false] at h
      have h1 : Lib.indexByte l c = -1 := by
        by_cases h2 : Lib.indexByte l c = -1
        · exact h2
        · have : ¬ (Lib.indexByte l c == -1) = true := fun e => h2 (beq_iff_eq.1 e)
          rw [if_neg this] at h; omega
      have ih := cut_none c l (b :: cur) h1
      simp only [cutS, splitS, beq8, hb, cond_false, ih]
      simp
theorem cut_some (c : UInt8) : ∀ (l cur : List UInt8) (i : Nat), Lib.indexByte l c = i → cutS c l cur = some (cur.reverse ++ l.take i, l.drop (i + 1)) ∧ splitS c l cur = (cur.reverse ++ l.take i) :: splitS c (l.drop (i + 1)) []
  | [], cur, i, h => by simp only [Lib.indexByte] at h; omega
  | b :: l, cur, i, h => by
    simp only [Lib.indexByte] at h
    have hge := Lib.indexByte_ge l c
    cases hb : (b == c) with
    | true =>
      simp only [hb, if_true] at h
      have hi : i = 0 := by omega
      subst hi
      simp [cutS, splitS, beq8, hb]
    | false =>
      simp only [hb, Bool.false_eq_true, if_false] at h
      by_cases h2 : Lib.indexByte l c = -1
      · rw [if_pos (beq_iff_eq.2 h2)] at h; omega
      · have h3 : ¬ (Lib.indexByte l c == -1) = true := fun e => h2 (beq_iff_eq.1 e)
        rw [if_neg h3] at h
        obtain ⟨j, rfl⟩ : ∃ j, i = j + 1 := ⟨i - 1, by omega⟩
        have ih := cut_some c l (b :: cur) j (by omega)
        simp only [cutS, splitS, beq8, hb, cond_false, ih]
        simp
theorem indexB_one {s sep : ByteArray} {c : UInt8} (hsep : sep.data.toList = [c]) : Lib.indexB s sep = Lib.indexByte s.data.toList c := by
  show Lib.index s.data.toList sep.data.toList = _
  rw [hsep, Lib.index_one]
theorem splitS_eq {sep : ByteArray} {c : UInt8} (hsep : sep.data.toList = [c]) : ∀ (k : Nat) (s : ByteArray), Lib.countB s sep = k → (Lib.splitB sep 0 k s).map (·.data.toList) = splitS c s.data.toList [] := by
  have hsz : sep.size = 1 := by rw [Lib.size_eq, hsep]; rfl
  intro k
  induction k with
  | zero =>
    intro s hk
    rcases Lib.indexB_cases s sep with h | ⟨i, h, _⟩
    · have := (cut_none c s.data.toList [] (by rw [← indexB_one hsep]; exact h)).2
      rw [this, Lib.splitB_zero]; simp
    · have := Lib.countB_hit s sep i (by omega) h
      omega
  | succ k ih =>
    intro s hk
    rcases Lib.indexB_cases s sep with h | ⟨i, h, _⟩
    · have := Lib.countB_miss s sep h
      omega
    · have hc := Lib.countB_hit s sep i (by omega) h
      have hi := (cut_some c s.data.toList [] i (by rw [← indexB_one hsep]; exact h)).2
      rw [hi, Lib.splitB_hit sep 0 k s i h, List.map_cons, ih _ (by omega), hsz, Lib.extract_to_end, Lib.extract_from_zero]
      simp
theorem cutS_eq {s sep : ByteArray} {c : UInt8} (hsep : sep.data.toList = [c]) : Lib.cut s.data.toList sep.data.toList = match cutS c s.data.toList [] with
    | some (a, b) => (a, b, true)
    | none => (s.data.toList, [], false) := by
  rcases Lib.indexB_cases s sep with h | ⟨i, h, _⟩
  · have h1 := (cut_none c s.data.toList [] (by rw [← indexB_one hsep]; exact h)).1
    have h2 : Lib.index s.data.toList sep.data.toList = -1 := h
    rw [h1, Lib.cut, if_neg (by omega)]
  · have h1 := (cut_some c s.data.toList [] i (by rw [← indexB_one hsep]; exact h)).1
    have h2 : Lib.index s.data.toList sep.data.toList = i := h
    rw [h1, Lib.cut, if_pos (by omega), h2, hsep]
    simp
def joinS (sep : List UInt8) : List (List UInt8) → List UInt8
  | [] => []
  | x :: l => match l with
    | [] => x
    | _ :: _ => x ++ sep ++ joinS sep l
theorem joinS_eq (sep : List UInt8) : ∀ l : List (List UInt8), joinS sep l = Lib.join l sep
  | [] => rfl
  | [x] => (Lib.join_one x sep).symm
  | x :: y :: l => by
    show x ++ sep ++ joinS sep (y :: l) = _
    rw [joinS_eq sep (y :: l), Lib.join_cons, Lib.join_cons]
    simp [Lib.joinTail]
def strsOf : List Value → Option (List ByteArray)
  | [] => some []
  | .string s :: l => match strsOf l with
    | some r => some (s :: r)
    | none => none
  | _ :: _ => none
theorem strsOf_eq : ∀ {l : List Value} {r : List ByteArray}, strsOf l = some r → l = r.map Value.string
  | [], r, h => by simp only [strsOf, Option.some.injEq] at h; subst h; rfl
  | .string s :: l, r, h => by
    simp only [strsOf] at h
    split at h
    · rename_i r' hr
      simp only [Option.some.injEq] at h; subst h
      rw [strsOf_eq hr]; rfl
    · simp at h
  | .bool _ :: _, _, h | .int .. :: _, _, h | .float .. :: _, _, h | .complex .. :: _, _, h | .pointer _ :: _, _, h | .slice .. :: _, _, h | .map _ :: _, _, h | .chan _ :: _, _, h | .func .. :: _, _, h
  | .nilFunc :: _, _, h | .iface .. :: _, _, h | .nilIface :: _, _, h | .agg _ :: _, _, h | .tuple _ :: _, _, h => by simp [strsOf] at h
def nat64 : Value → Option Nat
  | .int .u64 (.ofNat n) => bif Nat.blt n 18446744073709551616 then some n else none
  | _ => none
theorem nat64_eq {v : Value} {n : Nat} (h : nat64 v = some n) : v = .int .u64 n ∧ n < 18446744073709551616 := by
  unfold nat64 at h
  split at h
  · rename_i k
    cases hb : Nat.blt k 18446744073709551616 with
    | false => simp [hb] at h
    | true =>
      simp only [hb, cond_true, Option.some.injEq] at h; subst h
      exact ⟨rfl, by simp [Nat.blt] at hb; omega⟩
  · simp at h
def lenB (n : Nat) (l : List UInt8) : Bool := Nat.blt l.length n
def sumF (f : FuncId) (args : List Value) (H : AH) : Option (Option (Value × AH)) :=
  bif Nat.beq f 135 then some (match args with
    | [.int .i64 n] => match itoaS n with
      | some l => some (bytesV l, H)
      | none => none
    | _ => none)
  else bif Nat.beq f 90 then some (match args with
    | [.string s, .string sep] => match sep.data.toList with
      | [c] => bif lenB 1048576 s.data.toList then
        some (.slice (some ⟨H.next, 0, none⟩) (splitS c s.data.toList []).length (splitS c s.data.toList []).length, H.push (.cells ((splitS c s.data.toList []).map bytesV) 9 none)) else none
      | _ => none
    | _ => none)
  else bif Nat.beq f 98 then some (match args with
    | [.string s, .string sep] => match sep.data.toList with
      | [c] => bif lenB 1048576 s.data.toList then (match cutS c s.data.toList [] with
        | some (a, b) => some (.tuple ⟨[bytesV a, bytesV b, .bool true]⟩, H)
        | none => some (.tuple ⟨[.string s, bytesV [], .bool false]⟩, H)) else none
      | _ => none
    | _ => none)
  else bif Nat.beq f 51 then some (match args with
    | [.string s, .string x] => bif lenB 1048576 s.data.toList then some (.bool (x.data.toList.isSuffixOf s.data.toList), H) else none
    | _ => none)
  else bif Nat.beq f 136 then some (match args with
    | [.slice (some ⟨b, o, none⟩) n _, .string sep] => match H.cellsAt b with
      | some (cs, _, _) => match strsOf ((cs.drop o).take n) with
        | some l => bif Nat.beq l.length n && Nat.blt n 1048576 && lenB 16777216 (joinS sep.data.toList (l.map (·.data.toList))) then some (bytesV (joinS sep.data.toList (l.map (·.data.toList))), H) else none
        | none => none
      | none => none
    | _ => none)
  else bif Nat.beq f 347 then some (match args with
    | [x, y] => match nat64 x, nat64 y with
      | some x, some y => some (.tuple ⟨[.int .u64 (Int.ofNat (x * y / 18446744073709551616)), .int .u64 (Int.ofNat (x * y % 18446744073709551616))]⟩, H)
      | _, _ => none
    | _ => none)
  else none
end Go.U
end
