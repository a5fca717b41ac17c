/- known() returns true, whatever the world is, and changes nothing that lay. · ForemanNil, by the evaluator: the lists are never looked into. -/
import Derived.Test.YtfcbemhokihmoaaGreatDoorA5
import Derived.Test.YtfcbemhokihmoaaGreatDoorA6
import Derived.Test.YtfcbemhokihmoaaGreatDoorV5
set_option linter.all false
section
namespace Go.U
open Go.Proofs Go.Proofs.YtfcbemhokihmoaaGreatDoor
set_option autoImplicit false
set_option maxRecDepth 100000

section
variable {B : Nat} {gl : GL}
theorem ok0 (hG : GlOK B gl) : Ok Tryz.prog B gl E0 := ⟨layItoa.mixed, tokAll, envI0, envS0 hG, envA0, fokAll⟩
theorem ok6 (hG : GlOK B gl) : Ok Tryz.prog B gl E6 :=
  ext_ok (ext_ok (ext_ok (ext_ok (ext_ok (ext_ok (ok0 hG) tab0_ok) tab1_ok) tab2_ok) tab3_ok) tab4_ok) tab5_ok
end
def knownB (x : Option (AEnd × AH)) : Bool := match x with
  | some (.ret (.bool true), _) => true
  | _ => false
theorem known_ev : knownB ((kev E6 60).call 6 [] H0) = true := by decide +kernel
/-- What lay lies as before; the world outside is as it was. -/
structure Kept (w w' : World) : Prop where
  os : w'.os = w.os
  output : w'.output = w.output
  size : w.heap.size ≤ w'.heap.size
  block : ∀ k, k < w.heap.size → w'.heap[k]? = w.heap[k]?
theorem Kept.trans {a b c : World} (h : Kept a b) (k : Kept b c) : Kept a c :=
  ⟨k.os.trans h.os, k.output.trans h.output, Nat.le_trans h.size k.size, fun x hx => (k.block x (Nat.lt_of_lt_of_le hx h.size)).trans (h.block x hx)⟩
def glOf (w : World) : GL := ⟨fun x => w.heap[x]?, w.os, w.output⟩
def ren0 : Ren := ⟨fun _ => none, fun _ => 0⟩
theorem rel0 (K : KK) (P : Program) (w : World) (hgl : K.gl = glOf w) (hB : K.B ≤ w.heap.size) : Rel K P ren0 H0 w where
  dom b x h := by simp [ren0] at h
  obj b x o h := by simp [ren0] at h
  inj b c x h := by simp [ren0] at h
  bnd b x h := by simp [ren0] at h
  grp b x cs T g tip kill h := by simp [ren0] at h
  gbd b x cs T g h := by simp [ren0] at h
  base b x h := by simp [ren0] at h
  gl x _ := by rw [hgl]; rfl
  bsz := hB
  ob := by rw [hgl]; exact ⟨rfl, rfl⟩
/-- known() returns true. -/
theorem known_calls {B : Nat} (w : World) (hB : B ≤ w.heap.size) (hG : GlOK B (glOf w)) : Calls Tryz.prog 6 #[] w fun e w' => e = .returned (.bool true) ∧ Kept w w' := by
  have hs := (ok6 hG).sound 60
  have he := known_ev
  rw [kev_eq] at he
  cases hc : (ev E6 60).call 6 [] H0 with
  | none => rw [hc] at he; simp [knownB] at he
  | some p =>
    obtain ⟨e, H1⟩ := p
    rw [hc] at he
    have hv : e = .ret (.bool true) := by
      unfold knownB at he
      split at he
      · rename_i heq; simp only [Option.some.injEq, Prod.mk.injEq] at heq; exact heq.1
      · simp at he
    subst hv
    have hcall := hs.call _ _ _ _ _ hc ren0 w #[] (rel0 _ _ w rfl hB) .nil
    rcases hcall with ⟨_, h2⟩ | ⟨v, w1, h2, _⟩
    · refine Calls.mono h2 ?_
      rintro en w1 ⟨m1, r1, c1, e1⟩
      cases en with
      | returned v =>
        cases e1
        exact ⟨rfl, r1.ob.1, r1.ob.2, c1.size, fun k hk => c1.frame k hk fun b hb => by simp [ren0] at hb⟩
      | panicked ch => exact e1.elim
      | outgrown => exact e1.elim
    · rw [Tryz.call6] at h2
      cases h2
end Go.U
end

section
namespace Go.U
open Go.Proofs Go.Proofs.YtfcbemhokihmoaaGreatDoor
set_option autoImplicit false
set_option maxRecDepth 100000

theorem ext_ok' {P : Program} {B : Nat} {gl : GL} {E E2 : Env} (h : Ok P B gl E) (h2 : Ok P B gl E2) (hK : KE E2 P B gl = KE E P B gl) {n : Nat} {tab : Tr (List Ent)} (ht : TabOK (fun x => chkE (kev E2 n) x = true) tab) : Ok P B gl (ext E tab) where
  hM := h.hM
  hT := h.hT
  hI := fun t nm f off rt hf m v v' rv w hv hp => h.hI t nm f off rt hf m v v' rv w hv hp
  hS := by
    rw [KE_ext]
    intro f args H v H1 hs m w args' hR ha
    rcases tabS_spec hs with hs | ⟨l, x, h1, h3, h4, h5⟩
    · exact h.hS f args H v H1 hs m w args' hR ha
    · have hc := ht.mem f l h1 x h3
      rw [kev_eq] at hc
      have hsd := h2.sound n
      rw [hK] at hsd
      have := (ent_sound hsd hc h5).2 m w args' hR ha
      rw [h4] at this
      exact this
  hE := by
    intro f args H v H1 hs
    rcases tabS_spec hs with hs | ⟨l, x, h1, h3, h4, h5⟩
    · exact h.hE f args H v H1 hs
    · have hc := ht.mem f l h1 x h3
      rw [kev_eq] at hc
      exact (ent_sound (h2.sound n) hc h5).1
  hF := fun f fn hf => by
    obtain ⟨h1, h2, h3⟩ := h.hF f fn hf
    exact ⟨h1, h2, fun c hc => by rw [codeOK_ext]; exact h3 c hc⟩
def eKnown : Ent := ⟨6, [], [], .bool true, []⟩
theorem cKnown : chkE (kev E6 60) eKnown = true := by decide +kernel
def tabN : Tr (List Ent) := .nd none .lf (.nd none .lf (.nd (some [eKnown]) .lf .lf))
theorem tabN_ok : TabOK (fun x => chkE (kev E6 60) x = true) tabN := ⟨trivial, trivial, trivial, trivial, ⟨cKnown, trivial⟩, trivial, trivial⟩
noncomputable def EN : Env := ext E0 tabN
theorem KE6 (B : Nat) (gl : GL) : KE E6 Tryz.prog B gl = KE E0 Tryz.prog B gl := by
  simp only [E6, E5, E4, E3, E2, E1, KE_ext]
theorem okN {B : Nat} {gl : GL} (hG : GlOK B gl) : Ok Tryz.prog B gl EN := ext_ok' (ok0 hG) (ok6 hG) (KE6 B gl) tabN_ok

/-- Two names of which nothing is known. -/
def HN : AH := ⟨.lf, .lf, 2, BIG⟩
def nilB (x : Option (AEnd × AH)) : Bool := match x with
  | some (.ret (.bool true), H1) => Nat.ble 2 H1.low
  | _ => false
noncomputable def nilEv (k1 : Int) (s1 : Value) (k2 : Int) (s2 : Value) : Bool := nilB ((kev EN 60).call 3 [Ag [.int .i64 k1, s1], Ag [.int .i64 k2, s2]] HN)
theorem nil_long (k1 : Int) (i o n c : Nat) (k2 : Int) (s2 : Value) : nilEv k1 (Sl i o (n + 7) c) k2 s2 = true := by kernel_rfl
def Short (s : Value) : Prop := s = .slice none 0 0 ∨ ∃ i o n c, n ≤ 6 ∧ s = Sl i o n c
def Long (s : Value) : Prop := ∃ i o n c, s = Sl i o (n + 7) c
theorem upto6 {n : Nat} (h : n ≤ 6) : n = 0 ∨ n = 1 ∨ n = 2 ∨ n = 3 ∨ n = 4 ∨ n = 5 ∨ n = 6 := by omega
theorem nil_sl (k1 k2 : Int) {s1 s2 : Value} (h1 : Short s1) (h2 : Long s2) : nilEv k1 s1 k2 s2 = true := by
  obtain ⟨i2, o2, n2, c2, rfl⟩ := h2
  rcases h1 with rfl | ⟨i, o, n, c, hn, rfl⟩
  · kernel_rfl
  · rcases upto6 hn with rfl | rfl | rfl | rfl | rfl | rfl | rfl <;> kernel_rfl
theorem nil_ss (k1 k2 : Int) {s1 s2 : Value} (h1 : Short s1) (h2 : Short s2) : nilEv k1 s1 k2 s2 = true := by
  rcases h2 with rfl | ⟨i2, o2, n2, c2, hn2, rfl⟩
  · rcases h1 with rfl | ⟨i, o, n, c, hn, rfl⟩
    · kernel_rfl
    · rcases upto6 hn with rfl | rfl | rfl | rfl | rfl | rfl | rfl <;> kernel_rfl
  · rcases upto6 hn2 with rfl | rfl | rfl | rfl | rfl | rfl | rfl <;>
    (rcases h1 with rfl | ⟨i, o, n, c, hn, rfl⟩
     · kernel_rfl
     · rcases upto6 hn with rfl | rfl | rfl | rfl | rfl | rfl | rfl <;> kernel_rfl)
theorem nil_all (k1 k2 : Int) {s1 s2 : Value} (h1 : Short s1 ∨ Long s1) (h2 : Short s2 ∨ Long s2) : nilEv k1 s1 k2 s2 = true := by
  rcases h1 with h1 | ⟨i, o, n, c, rfl⟩
  · rcases h2 with h2 | h2
    · exact nil_ss k1 k2 h1 h2
    · exact nil_sl k1 k2 h1 h2
  · exact nil_long ..
/-- The two lists' blocks, by name. -/
def renN (p q : Option Nat) : Ren := ⟨fun b => if b = 0 then p else if b = 1 then q else none, fun _ => 0⟩
theorem renN_cases {p q : Option Nat} {b x : Nat} (h : (renN p q).ρ b = some x) : (b = 0 ∧ p = some x) ∨ (b = 1 ∧ q = some x) := by
  simp only [renN] at h
  by_cases h0 : b = 0
  · rw [if_pos h0] at h; exact .inl ⟨h0, h⟩
  · rw [if_neg h0] at h
    by_cases h1 : b = 1
    · rw [if_pos h1] at h; exact .inr ⟨h1, h⟩
    · rw [if_neg h1] at h; simp at h
theorem HN_get (b : Nat) : HN.get b = none := rfl
theorem relN (K : KK) (P : Program) (w : World) (hgl : K.gl = glOf w) (hB : K.B ≤ w.heap.size) {p q : Option Nat} (hp : ∀ x, p = some x → x < w.heap.size) (hq : ∀ x, q = some x → x < w.heap.size) (hne : ∀ x, p = some x → q ≠ some x) : Rel K P (renN p q) HN w where
  dom b x h := by rcases renN_cases h with ⟨rfl, _⟩ | ⟨rfl, _⟩ <;> decide
  obj b x o h ho := by rw [HN_get] at ho; simp at ho
  inj b c x h1 h2 := by
    rcases renN_cases h1 with ⟨rfl, e1⟩ | ⟨rfl, e1⟩ <;> rcases renN_cases h2 with ⟨rfl, e2⟩ | ⟨rfl, e2⟩
    · exact .inl rfl
    · exact absurd e2 (hne x e1)
    · exact absurd e1 (hne x e2)
    · exact .inl rfl
  bnd b x h := by
    rcases renN_cases h with ⟨rfl, e⟩ | ⟨rfl, e⟩
    · exact hp x e
    · exact hq x e
  grp b x cs T g tip kill h ho := by rw [HN_get] at ho; simp at ho
  gbd b x cs T g h ho := by rw [HN_get] at ho; simp at ho
  base b x _ := .inr (HN_get b)
  gl x _ := by rw [hgl]; rfl
  bsz := hB
  ob := by rw [hgl]; exact ⟨rfl, rfl⟩
/-- A list of whole numbers as the machine has it. -/
inductive ListV (w : World) : Value → Prop
  | nil : ListV w (.slice none 0 0)
  | some (b o n c : Nat) : b < w.heap.size → n ≤ c → c < HALF → ListV w (.slice (some ⟨b, o, none⟩) n c)
theorem nil_calls {B : Nat} (w : World) (hB : B ≤ w.heap.size) (hG : GlOK B (glOf w)) (k1 k2 : Int) {v1 v2 : Value} (h1 : ListV w v1) (h2 : ListV w v2) :
    Calls Tryz.prog 3 #[.agg #[.int .i64 k1, v1], .agg #[.int .i64 k2, v2]] w fun e w' => e = .returned (.bool true) ∧ Kept w w' := by
  have go : ∀ (p q : Option Nat) (s1 s2 : Value), (∀ x, p = some x → x < w.heap.size) → (∀ x, q = some x → x < w.heap.size) → (∀ x, p = some x → q ≠ some x) → VR (renN p q) s1 v1 → VR (renN p q) s2 v2 → (Short s1 ∨ Long s1) → (Short s2 ∨ Long s2) →
      Calls Tryz.prog 3 #[.agg #[.int .i64 k1, v1], .agg #[.int .i64 k2, v2]] w fun e w' => e = .returned (.bool true) ∧ Kept w w' := by
    intro p q s1 s2 hp hq hne r1 r2 l1 l2
    have hs := (okN hG).sound 60
    have he := nil_all k1 k2 l1 l2
    simp only [nilEv, kev_eq] at he
    cases hc : (ev EN 60).call 3 [Ag [.int .i64 k1, s1], Ag [.int .i64 k2, s2]] HN with
    | none => rw [hc] at he; simp [nilB] at he
    | some pr =>
      obtain ⟨e, H1⟩ := pr
      rw [hc] at he
      have hv : e = .ret (.bool true) ∧ 2 ≤ H1.low := by
        unfold nilB at he
        split at he
        · rename_i heq; simp only [Option.some.injEq, Prod.mk.injEq] at heq; obtain ⟨rfl, rfl⟩ := heq; exact ⟨rfl, Nat.le_of_ble_eq_true he⟩
        · simp at he
      obtain ⟨rfl, hlow⟩ := hv
      have hR := relN (KE EN Tryz.prog B (glOf w)) Tryz.prog w rfl hB hp hq hne
      have ha : VRs (renN p q) [Ag [.int .i64 k1, s1], Ag [.int .i64 k2, s2]] #[.agg #[.int .i64 k1, v1], .agg #[.int .i64 k2, v2]].toList :=
        .cons _ _ _ _ (.agg _ _ (.cons _ _ _ _ (.int _ _) (.cons _ _ _ _ r1 .nil))) (.cons _ _ _ _ (.agg _ _ (.cons _ _ _ _ (.int _ _) (.cons _ _ _ _ r2 .nil))) .nil)
      have hcall := hs.call _ _ _ _ _ hc (renN p q) w _ hR ha
      rcases hcall with ⟨_, h2⟩ | ⟨v, w1, h2, _⟩
      · refine Calls.mono h2 ?_
        rintro en w1 ⟨m1, r1, c1, e1⟩
        cases en with
        | returned v =>
          cases e1
          exact ⟨rfl, r1.ob.1.trans hR.ob.1.symm, r1.ob.2.trans hR.ob.2.symm, c1.size, fun k hk => c1.frame k hk fun b hb => by have := hR.dom b k hb; have e : HN.next = 2 := rfl; omega⟩
        | panicked ch => exact e1.elim
        | outgrown => exact e1.elim
      · rw [Tryz.call3] at h2
        cases h2
  have len : ∀ i o n c, Short (Sl i o n c) ∨ Long (Sl i o n c) := by
    intro i o n c
    by_cases h : n ≤ 6
    · exact .inl (.inr ⟨i, o, n, c, h, rfl⟩)
    · obtain ⟨j, rfl⟩ : ∃ j, n = j + 7 := ⟨n - 7, by omega⟩
      exact .inr ⟨i, o, j, c, rfl⟩
  cases h1 with
  | nil =>
    cases h2 with
    | nil => exact go none none _ _ (by simp) (by simp) (by simp) .sl0 .sl0 (.inl (.inl rfl)) (.inl (.inl rfl))
    | some b2 o2 n2 c2 hb2 hn2 hc2 => exact go none (some b2) _ (Sl 1 o2 n2 c2) (by simp) (by intro x hx; simp at hx; omega) (by simp) .sl0 (.sl 1 o2 n2 c2 b2 rfl hn2 hc2) (.inl (.inl rfl)) (len ..)
  | some b1 o1 n1 c1 hb1 hn1 hc1 =>
    cases h2 with
    | nil => exact go (some b1) none (Sl 0 o1 n1 c1) _ (by intro x hx; simp at hx; omega) (by simp) (by simp) (.sl 0 o1 n1 c1 b1 rfl hn1 hc1) .sl0 (len ..) (.inl (.inl rfl))
    | some b2 o2 n2 c2 hb2 hn2 hc2 =>
      by_cases hb : b1 = b2
      · subst hb
        exact go (some b1) none (Sl 0 o1 n1 c1) (Sl 0 o2 n2 c2) (by intro x hx; simp at hx; omega) (by simp) (by simp) (.sl 0 o1 n1 c1 b1 rfl hn1 hc1) (.sl 0 o2 n2 c2 b1 rfl hn2 hc2) (len ..) (len ..)
      · exact go (some b1) (some b2) (Sl 0 o1 n1 c1) (Sl 1 o2 n2 c2) (by intro x hx; simp at hx; omega) (by intro x hx; simp at hx; omega) (by intro x hx hx2; simp at hx hx2; omega) (.sl 0 o1 n1 c1 b1 rfl hn1 hc1) (.sl 1 o2 n2 c2 b2 rfl hn2 hc2) (len ..) (len ..)
end Go.U
end
