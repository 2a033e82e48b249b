/- Chapter texts of ours, as far as the claim needs them. -/
import Derived.Test.YtbegofbmbcghdaaGreatDoorBytes
import Derived.LoopN
import Derived.Test.YtbegofbmbcghdaaGreatDoorOwn
namespace Go.Proofs.YtbegofbmbcghdaaGreatDoor
open Go Go.RowKit
set_option linter.unusedVariables false
set_option linter.unusedSectionVars false
set_option linter.unusedSimpArgs false
section
variable {P : Program} {ops : Array Oper} {Q : Exit → Act → World → Prop} {md : Region.Mode} {K : World → Prop} {s : Nat}
theorem JE {i : Nat} {oi : Oper} {v : Value} (hi : ops[i]? = some oi) (hsel : ∀ (j : Nat) (o : Oper) cs b, ops[j]? = some o → o.op ≠ .select cs b)
    (hQ : ∀ c a w, Q (.panic c) (a.put oi.dst v) w → Q (.panic c) a w) :
    ∀ (fuel : Nat) (listed : Array Bool) (a : Act) (w : World),
      (∀ j oj, ops[j]? = some oj → j ≠ i → listed.getD j true = false → (∀ e ∈ oj.after, Region.binds md e = true → e.on ≠ i) → oi.apart ops oj = true) →
      i ∈ Region.ready md ops listed → YieldsIf P ops (fun _ => True) oi v a → i ≠ s → (listed.getD s true = false → K w) →
      jk P md ops Q K s fuel (listed.setIfInBounds i true) (a.put oi.dst v) w → jk P md ops Q K s (fuel + 1) listed a w := by
  intro fuel
  induction fuel with
  | zero =>
    intro listed a w _ hr hy his hK H
    refine ⟨fun h => (by rw [h] at hr; cases hr), fun j hj => ?_⟩
    by_cases hji : j = i
    · subst hji; exact hy.wpOp hi trivial ⟨fun hh => hK (by rw [getD_set_ne true his] at hh; exact hh), H⟩
    · have := ready_mono hj hji
      rw [H.1] at this
      cases this
  | succ fuel ih =>
    intro listed a w hfree hr hy his hK H
    refine ⟨fun h => (by rw [h] at hr; cases hr), fun j hj => ?_⟩
    by_cases hji : j = i
    · subst hji; exact hy.wpOp hi trivial ⟨fun hh => hK (by rw [getD_set_ne true his] at hh; exact hh), H⟩
    · have h1 := H.2 j (ready_mono hj hji)
      obtain ⟨hjun, oj, hoj, hall⟩ := mem_ready.1 hj
      have hnot : ∀ e ∈ oj.after, Region.binds md e = true → e.on ≠ i := fun e he hb heq => by
        have h1 := hall e he hb
        have h0 := (mem_ready.1 hr).1
        rw [heq] at h1
        rcases Nat.lt_or_ge i listed.size with h' | h'
        · simp [h'] at h0 h1; rw [h0] at h1; cases h1
        · simp [Array.getElem?_eq_none h'] at h1
      have h2 := wpOp_putIf hoj (hfree j oj hoj hji hjun hnot) (fun cs b => hsel i oi cs b hi) (fun cs b => hsel j oj cs b hoj) hQ hy h1
      have hfree' : ∀ k ok, ops[k]? = some ok → k ≠ i → (listed.setIfInBounds j true).getD k true = false →
          (∀ e ∈ ok.after, Region.binds md e = true → e.on ≠ i) → oi.apart ops ok = true := fun k ok hk hki hun hno => by
        refine hfree k ok hk hki ?_ hno
        by_cases hjk : j = k
        · subst hjk; exact hjun
        · rw [getD_set_ne true hjk] at hun; exact hun
      refine wpOp_mono (fun a' w' h3 => ?_) h2
      have hf : (listed.setIfInBounds j true).getD s true = false → K w' := fun hh => h3.2.1 (by rw [Array.setIfInBounds_comm _ _ (Ne.symm hji), getD_set_ne true his]; exact hh)
      refine ⟨hf, ih (listed.setIfInBounds j true) a' w' hfree' (ready_mono hr (Ne.symm hji)) h3.1 his hf ?_⟩
      rw [Array.setIfInBounds_comm _ _ hji]
      exact h3.2.2
end
section
variable {P : Program} {n : Nat} {fs : Fr} {a : Act} {o : Oper} {v : Value} {ops : Array Oper} {Q : Exit → Act → World → Prop} {w : World} {K : World → Prop} {fuel i s : Nat} {listed : Array Bool}
theorem M.KC (hf : fB n fs a) (hs : K w) {d : Nat} (hi : ops[i]? = some o) (hg : gv ops fs o = some true) (hd : o.dst = some d) (hdn : Nat.blt d n = true) (h1 : Region.noSelect ops = true) (h2 : Region.free .any ops listed i = true) (h3 : (Region.ready .any ops listed).contains i = true) (h6 : Nat.beq i s = false)
    (hrun : ∀ (w1 : World) a w, fB n fs a → Sat w1 none_ [] w → kC P o a w v) (k : ∀ a, fB n ((d, v) :: fs) a → jk P .any ops (gu Q) K s fuel (listed.setIfInBounds i true) a w) : jk P .any ops (gu Q) K s (fuel + 1) listed a w := by
  refine JE (v := v) hi (Region.noSelect_spec h1) (fun c a w h => h) fuel listed a w (Region.free_spec hi h2) (by simpa using h3) (.inl ⟨zK hf hg, fun w _ => hrun w a w hf (Sat.start w none_)⟩) (fun e => by rw [e, Nat.beq_refl] at h6; cases h6) (fun _ => hs) ?_
  rw [hd]
  exact k _ (hf.put d (Nat.blt_eq ▸ hdn) v)
end
abbrev iv (n : Int) : Value := .int .i64 n
abbrev pn (g k : Nat) : Value := .pointer (some ⟨g, k, none⟩)
def SK : Bool → Bool → Bool
  | true, b => b
  | false, b => !b
def okv (n : Nat) (ops : Array Oper) (fs : Fr) (o : Oper) (b : Bool) : Option Nat :=
  match gv ops fs o with
  | some c => match o.dst with
    | some d => match SK c b && Nat.blt d n with
      | true => some d
      | false => none
    | none => none
  | none => none
theorem iy {n : Nat} {ops : Array Oper} {fs : Fr} {o : Oper} {b : Bool} {d : Nat} (h : okv n ops fs o b = some d) : gv ops fs o = some b ∧ o.dst = some d ∧ Nat.blt d n = true := by
  unfold okv at h
  split at h
  · rename_i c hc
    split at h
    · rename_i d' hd
      split at h
      · rename_i hb
        injection h with h; subst h
        rw [Bool.and_eq_true] at hb
        refine ⟨?_, hd, hb.2⟩
        rw [hc]
        have := hb.1
        cases c <;> cases b <;> first | rfl | cases this
      · cases h
    · cases h
  · cases h
def okh (ops : Array Oper) (listed : Array Bool) (i : Nat) : Bool := Region.noSelect ops && Region.free .any ops listed i && (Region.ready .any ops listed).contains i
theorem pK {ops : Array Oper} {listed : Array Bool} {i : Nat} (h : okh ops listed i = true) : Region.noSelect ops = true ∧ Region.free .any ops listed i = true ∧ (Region.ready .any ops listed).contains i = true := by
  unfold okh at h
  rw [Bool.and_eq_true, Bool.and_eq_true] at h
  exact ⟨h.1.1, h.1.2, h.2⟩
def okm (ops : Array Oper) (listed : Array Bool) (i s : Nat) : Bool := okh ops listed i && (waitsFor .any ops s i && (!(listed.getD s true) && !(Nat.beq i s)))
theorem MW {ops : Array Oper} {listed : Array Bool} {i s : Nat} (h : okm ops listed i s = true) : okh ops listed i = true ∧ waitsFor .any ops s i = true ∧ listed.getD s true = false ∧ Nat.beq i s = false := by
  unfold okm at h
  rw [Bool.and_eq_true, Bool.and_eq_true, Bool.and_eq_true, Bool.not_eq_true', Bool.not_eq_true'] at h
  exact ⟨h.1, h.2.1, h.2.2.1, h.2.2.2⟩
section
variable {P : Program} {n : Nat} {fs : Fr} {a : Act} {o : Oper} {ops : Array Oper} {rest : List Oper} {Q : Exit → Act → World → Prop} {w w0 : World} {M : Nat → Prop} {σ : List gJ} {S : World → Prop} {fuel : Nat} {listed : Array Bool}
theorem S.v (hf : fB n fs a) (hs : Sat w0 M σ w) (v : Value) {d : Nat} (e : okv n ops fs o true = some d) (hrun : ∀ a w, fB n fs a → Sat w0 M σ w → kC P o a w v) (k : ∀ a, fB n ((d, v) :: fs) a → wpList P ops Q rest a w) : wpList P ops Q (o :: rest) a w :=
  S.val hf hs (iy e).1 (iy e).2.1 (iy e).2.2 hrun k
theorem S.p (hf : fB n fs a) (hs : Sat w0 M σ w) (v : Value) {d : Nat} (e : okv n ops fs o true = some d) (hp : AY fs o.op = some v) (k : ∀ a, fB n ((d, v) :: fs) a → wpList P ops Q rest a w) : wpList P ops Q (o :: rest) a w :=
  S.v hf hs v e (V.pure hp) k
theorem S.k (hf : fB n fs a) {d : Nat} (e : okv n ops fs o false = some d) (k : ∀ a, fB n ((d, undef) :: fs) a → wpList P ops Q rest a w) : wpList P ops Q (o :: rest) a w :=
  S.skip hf (iy e).1 (iy e).2.1 (iy e).2.2 k
theorem D.v {K : Act → Prop} (hf : fB n fs a) (v : Value) {d : Nat} (e : okv n ops fs o true = some d) (hrun : ∀ a w, fB n fs a → Sat w0 M σ w → kC P o a w v) (k : ∀ a, fB n ((d, v) :: fs) a → wpQuiet P ops (Sat w0 M σ) K rest a) : wpQuiet P ops (Sat w0 M σ) K (o :: rest) a :=
  D.val hf (iy e).1 (iy e).2.1 (iy e).2.2 hrun k
theorem D.p {K : Act → Prop} (hf : fB n fs a) (v : Value) {d : Nat} (e : okv n ops fs o true = some d) (hp : AY fs o.op = some v) (k : ∀ a, fB n ((d, v) :: fs) a → wpQuiet P ops (Sat w0 M σ) K rest a) : wpQuiet P ops (Sat w0 M σ) K (o :: rest) a :=
  D.v hf v e (V.pure hp) k
theorem D.k {K : Act → Prop} (hf : fB n fs a) {d : Nat} (e : okv n ops fs o false = some d) (k : ∀ a, fB n ((d, undef) :: fs) a → wpQuiet P ops (Sat w0 M σ) K rest a) : wpQuiet P ops (Sat w0 M σ) K (o :: rest) a :=
  D.skip hf (iy e).1 (iy e).2.1 (iy e).2.2 k
theorem H.v (hf : fB n fs a) (hs : S w) (v : Value) (i : Nat) {d : Nat} (hi : ops[i]? = some o) (e : okv n ops fs o true = some d) (h : okh ops listed i = true) (hrun : ∀ a w, fB n fs a → S w → kC P o a w v) (k : ∀ a, fB n ((d, v) :: fs) a → wpAnyH P .any ops (gu Q) S fuel (listed.setIfInBounds i true) a w) : wpAnyH P .any ops (gu Q) S (fuel + 1) listed a w :=
  H.val hf hs hi (iy e).1 (iy e).2.1 (iy e).2.2 (pK h).1 (pK h).2.1 (pK h).2.2 hrun k
theorem H.k (hf : fB n fs a) (hs : S w) (i : Nat) {d : Nat} (hi : ops[i]? = some o) (e : okv n ops fs o false = some d) (h : okh ops listed i = true) (k : ∀ a, fB n ((d, undef) :: fs) a → wpAnyH P .any ops (gu Q) S fuel (listed.setIfInBounds i true) a w) : wpAnyH P .any ops (gu Q) S (fuel + 1) listed a w :=
  H.skip hf hs hi (iy e).1 (iy e).2.1 (iy e).2.2 (pK h).1 (pK h).2.1 (pK h).2.2 k
theorem M.v {s : Nat} (hf : fB n fs a) (hs : S w) (v : Value) (i : Nat) {d : Nat} (hi : ops[i]? = some o) (e : okv n ops fs o true = some d) (h : okm ops listed i s = true) (hrun : ∀ a w, fB n fs a → S w → kC P o a w v) (k : ∀ a, fB n ((d, v) :: fs) a → jk P .any ops (gu Q) S s fuel (listed.setIfInBounds i true) a w) : jk P .any ops (gu Q) S s (fuel + 1) listed a w :=
  have g := MW h
  M.val hf hs hi (iy e).1 (iy e).2.1 (iy e).2.2 (pK g.1).1 (pK g.1).2.1 (pK g.1).2.2 g.2.1 g.2.2.1 g.2.2.2 hrun k
theorem M.k {s : Nat} (hf : fB n fs a) (hs : S w) (i : Nat) {d : Nat} (hi : ops[i]? = some o) (e : okv n ops fs o false = some d) (h : okm ops listed i s = true) (k : ∀ a, fB n ((d, undef) :: fs) a → jk P .any ops (gu Q) S s fuel (listed.setIfInBounds i true) a w) : jk P .any ops (gu Q) S s (fuel + 1) listed a w :=
  have g := MW h
  M.skip hf hs hi (iy e).1 (iy e).2.1 (iy e).2.2 (pK g.1).1 (pK g.1).2.1 (pK g.1).2.2 g.2.1 g.2.2.1 g.2.2.2 k
end
def okp (n : Nat) (ops : Array Oper) (fs : Fr) (o : Oper) : Option (Nat × Value) :=
  match okv n ops fs o true, AY fs o.op with
  | some d, some v => some (d, v)
  | _, _ => none
theorem yg {n : Nat} {ops : Array Oper} {fs : Fr} {o : Oper} {d : Nat} {v : Value} (h : okp n ops fs o = some (d, v)) : okv n ops fs o true = some d ∧ AY fs o.op = some v := by
  unfold okp at h
  split at h
  · rename_i h1 h2; injection h with h; injection h with h3 h4; subst h3; subst h4; exact ⟨h1, h2⟩
  · cases h
theorem S.q {P : Program} {n : Nat} {fs : Fr} {a : Act} {o : Oper} {ops : Array Oper} {rest : List Oper} {Q : Exit → Act → World → Prop} {w w0 : World} {M : Nat → Prop} {σ : List gJ} (hf : fB n fs a) (hs : Sat w0 M σ w) (v : Value) {d : Nat} (e : okp n ops fs o = some (d, v)) (k : ∀ a, fB n ((d, v) :: fs) a → wpList P ops Q rest a w) : wpList P ops Q (o :: rest) a w :=
  S.p hf hs v (yg e).1 (yg e).2 k
theorem X.n {P : Program} {ops : Array Oper} {J : Act → World → Prop} {Q : Exit → Act → World → Prop} {a : Act} {w : World} (h : J a w) : wpList P ops (Exit.then J Q) [] a w := R.nil (X.eH h)
theorem X.l {P : Program} {id : Nat} {l : List Oper} {y : Code} {Q : Exit → Act → World → Prop} {a : Act} {w : World} (h : wpList P l.toArray (Exit.then (y.wp P Q) Q) l a w) : (Code.seq (Code.region id l.toArray false) y).wp P Q a w := wp_seq (R.list h)
section
variable {α β γ δ ε : Type} {k : Nat}
theorem NU {F : (α → Prop) → α → Prop} {s : α} (h : nC F (k + 1) s) : ∃ X : α → Prop, X = (fun s => nC F k s) ∧ F X s := ⟨_, rfl, h⟩
theorem KQ {F : (α × β → Prop) → α × β → Prop} {x : α} {y : β} (h : nC F (k + 1) (x, y)) : ∃ X : α → β → Prop, X = (fun x y => nC F k (x, y)) ∧ F (fun s => X s.1 s.2) (x, y) := ⟨_, rfl, h⟩
theorem Sz {F : (α × β × γ → Prop) → α × β × γ → Prop} {x : α} {y : β} {z : γ} (h : nC F (k + 1) (x, y, z)) : ∃ X : α → β → γ → Prop, X = (fun x y z => nC F k (x, y, z)) ∧ F (fun s => X s.1 s.2.1 s.2.2) (x, y, z) := ⟨_, rfl, h⟩
theorem S9 {F : (α × β × γ × δ → Prop) → α × β × γ × δ → Prop} {x : α} {y : β} {z : γ} {u : δ} (h : nC F (k + 1) (x, y, z, u)) : ∃ X : α → β → γ → δ → Prop, X = (fun x y z u => nC F k (x, y, z, u)) ∧ F (fun s => X s.1 s.2.1 s.2.2.1 s.2.2.2) (x, y, z, u) := ⟨_, rfl, h⟩
theorem TF {F : (α × β × γ × δ × ε → Prop) → α × β × γ × δ × ε → Prop} {x : α} {y : β} {z : γ} {u : δ} {v : ε} (h : nC F (k + 1) (x, y, z, u, v)) : ∃ X : α → β → γ → δ → ε → Prop, X = (fun x y z u v => nC F k (x, y, z, u, v)) ∧ F (fun s => X s.1 s.2.1 s.2.2.1 s.2.2.2.1 s.2.2.2.2) (x, y, z, u, v) := ⟨_, rfl, h⟩
theorem uf {B : Nat → α → Unit → (Unit → Prop) → Prop} {D : Unit → Prop} {x : α} {r : List α} (h : forIn' B D (x :: r) k ()) : ∃ X : Prop, X = forIn' B D r (k + 1) () ∧ B k x () (fun _ => X) := ⟨_, rfl, h⟩
theorem Ai {B : Nat → α → β → (β → Prop) → Prop} {D : β → Prop} {x : α} {r : List α} {s : β} (h : forIn' B D (x :: r) k s) : ∃ X : β → Prop, X = (fun s => forIn' B D r (k + 1) s) ∧ B k x s X := ⟨_, rfl, h⟩
theorem LV {B : Nat → α → β × γ → (β × γ → Prop) → Prop} {D : β × γ → Prop} {x : α} {r : List α} {s : β} {t : γ} (h : forIn' B D (x :: r) k (s, t)) : ∃ X : β → γ → Prop, X = (fun s t => forIn' B D r (k + 1) (s, t)) ∧ B k x (s, t) (fun s => X s.1 s.2) := ⟨_, rfl, h⟩
theorem TI {B : Nat → α → β × γ × δ → (β × γ × δ → Prop) → Prop} {D : β × γ × δ → Prop} {x : α} {r : List α} {s : β} {t : γ} {u : δ} (h : forIn' B D (x :: r) k (s, t, u)) : ∃ X : β → γ → δ → Prop, X = (fun s t u => forIn' B D r (k + 1) (s, t, u)) ∧ B k x (s, t, u) (fun s => X s.1 s.2.1 s.2.2) := ⟨_, rfl, h⟩
theorem fzx {B : Nat → α → β → (β → Prop) → Prop} {D : β → Prop} {s : β} (h : forIn' B D [] k s) : D s := h
end
section
variable {P : Program} {n : Nat} {fs : Fr} {a : Act} {o : Oper} {ops : Array Oper} {rest : List Oper} {Q : Exit → Act → World → Prop} {w w0 : World} {N : Nat → Prop} {σ : List gJ} {U : World → Prop} {fuel : Nat} {listed : Array Bool} {J : Act → World → Prop} {K : Act → Prop} {x y : Code} {v : Value} {d : Nat}
theorem Sq (v : Value) {d : Nat} (e : okp n ops fs o = some (d, v)) (k : ∀ a, fB n ((d, v) :: fs) a → wpList P ops Q rest a w) : ∀ a, fB n fs a → wpList P ops Q (o :: rest) a w := fun _ hf => S.q hf (Sat.start w none_) v e k
theorem Sv (hs : Sat w0 N σ w) (v : Value) {d : Nat} (e : okv n ops fs o true = some d) (hrun : ∀ a w, fB n fs a → Sat w0 N σ w → kC P o a w v) (k : ∀ a, fB n ((d, v) :: fs) a → wpList P ops Q rest a w) : ∀ a, fB n fs a → wpList P ops Q (o :: rest) a w := fun _ hf => S.v hf hs v e hrun k
theorem Sk {d : Nat} (e : okv n ops fs o false = some d) (k : ∀ a, fB n ((d, undef) :: fs) a → wpList P ops Q rest a w) : ∀ a, fB n fs a → wpList P ops Q (o :: rest) a w := fun _ hf => S.k hf e k
theorem Dq (v : Value) {d : Nat} (e : okp n ops fs o = some (d, v)) (k : ∀ a, fB n ((d, v) :: fs) a → wpQuiet P ops (Sat w0 N σ) K rest a) : ∀ a, fB n fs a → wpQuiet P ops (Sat w0 N σ) K (o :: rest) a := fun _ hf => D.p hf v (yg e).1 (yg e).2 k
theorem Dw (v : Value) {d : Nat} (e : okv n ops fs o true = some d) (hrun : ∀ a w, fB n fs a → Sat w0 N σ w → kC P o a w v) (k : ∀ a, fB n ((d, v) :: fs) a → wpQuiet P ops (Sat w0 N σ) K rest a) : ∀ a, fB n fs a → wpQuiet P ops (Sat w0 N σ) K (o :: rest) a := fun _ hf => D.v hf v e hrun k
theorem Dk {d : Nat} (e : okv n ops fs o false = some d) (k : ∀ a, fB n ((d, undef) :: fs) a → wpQuiet P ops (Sat w0 N σ) K rest a) : ∀ a, fB n fs a → wpQuiet P ops (Sat w0 N σ) K (o :: rest) a := fun _ hf => D.k hf e k
theorem Hw (hs : U w) (v : Value) (i : Nat) {d : Nat} (hi : ops[i]? = some o) (e : okv n ops fs o true = some d) (hrun : ∀ a w, fB n fs a → U w → kC P o a w v) (k : ∀ a, fB n ((d, v) :: fs) a → wpAnyH P .any ops (gu Q) U fuel (listed.setIfInBounds i true) a w) (h : okh ops listed i = true := by kernel_rfl) : ∀ a, fB n fs a → wpAnyH P .any ops (gu Q) U (fuel + 1) listed a w := fun _ hf => H.v hf hs v i hi e h hrun k
theorem Hq (hs : Sat w0 N σ w) (v : Value) (i : Nat) {d : Nat} (hi : ops[i]? = some o) (e : okp n ops fs o = some (d, v)) (k : ∀ a, fB n ((d, v) :: fs) a → wpAnyH P .any ops (gu Q) (Sat w0 N σ) fuel (listed.setIfInBounds i true) a w) (h : okh ops listed i = true := by kernel_rfl) : ∀ a, fB n fs a → wpAnyH P .any ops (gu Q) (Sat w0 N σ) (fuel + 1) listed a w := fun _ hf => H.v hf hs v i hi (yg e).1 h (V.pure (yg e).2) k
theorem Hkx (hs : U w) (i : Nat) {d : Nat} (hi : ops[i]? = some o) (e : okv n ops fs o false = some d) (k : ∀ a, fB n ((d, undef) :: fs) a → wpAnyH P .any ops (gu Q) U fuel (listed.setIfInBounds i true) a w) (h : okh ops listed i = true := by kernel_rfl) : ∀ a, fB n fs a → wpAnyH P .any ops (gu Q) U (fuel + 1) listed a w := fun _ hf => H.k hf hs i hi e h k
theorem Mw {s : Nat} (hs : U w) (v : Value) (i : Nat) {d : Nat} (hi : ops[i]? = some o) (e : okv n ops fs o true = some d) (hrun : ∀ a w, fB n fs a → U w → kC P o a w v) (k : ∀ a, fB n ((d, v) :: fs) a → jk P .any ops (gu Q) U s fuel (listed.setIfInBounds i true) a w) (h : okm ops listed i s = true := by kernel_rfl) : ∀ a, fB n fs a → jk P .any ops (gu Q) U s (fuel + 1) listed a w := fun _ hf => M.v hf hs v i hi e h hrun k
theorem Mq {s : Nat} (hs : Sat w0 N σ w) (v : Value) (i : Nat) {d : Nat} (hi : ops[i]? = some o) (e : okp n ops fs o = some (d, v)) (k : ∀ a, fB n ((d, v) :: fs) a → jk P .any ops (gu Q) (Sat w0 N σ) s fuel (listed.setIfInBounds i true) a w) (h : okm ops listed i s = true := by kernel_rfl) : ∀ a, fB n fs a → jk P .any ops (gu Q) (Sat w0 N σ) s (fuel + 1) listed a w := fun _ hf => M.v hf hs v i hi (yg e).1 h (V.pure (yg e).2) k
theorem Mkx {s : Nat} (hs : U w) (i : Nat) {d : Nat} (hi : ops[i]? = some o) (e : okv n ops fs o false = some d) (k : ∀ a, fB n ((d, undef) :: fs) a → jk P .any ops (gu Q) U s fuel (listed.setIfInBounds i true) a w) (h : okm ops listed i s = true := by kernel_rfl) : ∀ a, fB n fs a → jk P .any ops (gu Q) U s (fuel + 1) listed a w := fun _ hf => M.k hf hs i hi e h k
theorem Ho (i : Nat) (hi : ops[i]? = some o) (h : wpList P ops (Exit.then (fun a' w' => U w' ∧ wpAnyH P .any ops (gu Q) U fuel (listed.setIfInBounds i true) a' w') (gu Q)) [o] a w) (hr : Region.ready .any ops listed = [i] := by kernel_rfl) : wpAnyH P .any ops (gu Q) U (fuel + 1) listed a w := H.one hi hr h
theorem Hd (h : Q .normal a w) (hr : Region.ready .any ops listed = [] := by kernel_rfl) : wpAnyH P .any ops (gu Q) U fuel listed a w := H.done hr h
theorem Mo {s : Nat} (i : Nat) (hi : ops[i]? = some o) (h : wpList P ops (Exit.then (fun a' w' => U w' ∧ jk P .any ops (gu Q) U s fuel (listed.setIfInBounds i true) a' w') (gu Q)) [o] a w) (hr : Region.ready .any ops listed = [i] := by kernel_rfl) : jk P .any ops (gu Q) U s (fuel + 1) listed a w := M.one hi hr h
theorem Md {s : Nat} (h : Q .normal a w) (hr : Region.ready .any ops listed = [] := by kernel_rfl) : jk P .any ops (gu Q) U s fuel listed a w := M.done hr h
theorem Al (hf : fB n fs a) (k : ∀ a, fB n fs a → wpList P ops Q rest a w) : wpList P ops Q rest a w := k a hf
theorem Ah (hf : fB n fs a) (k : ∀ a, fB n fs a → wpAnyH P .any ops Q U fuel listed a w) : wpAnyH P .any ops Q U fuel listed a w := k a hf
theorem Am {s : Nat} (hf : fB n fs a) (k : ∀ a, fB n fs a → jk P .any ops Q U s fuel listed a w) : jk P .any ops Q U s fuel listed a w := k a hf
theorem Ad (hf : fB n fs a) (k : ∀ a, fB n fs a → wpQuiet P ops U K rest a) : wpQuiet P ops U K rest a := k a hf
theorem Yl {id : Nat} {l : List Oper} (hf : fB n fs a) (k : ∀ a, fB n fs a → wpList P l.toArray (Exit.then (y.wp P Q) Q) l a w) : (Code.seq (Code.region id l.toArray false) y).wp P Q a w := X.l (k a hf)
theorem Rm {id : Nat} {l : List Oper} (hf : fB n fs a) (k : ∀ a, fB n fs a → wpList P l.toArray Q l a w) : (Code.region id l.toArray false).wp P Q a w := R.list (k a hf)
theorem Xn (k : ∀ a, fB n fs a → J a w) : ∀ a, fB n fs a → wpList P ops (Exit.then J Q) [] a w := fun a hf => X.n (k a hf)
theorem Xl {id : Nat} {l : List Oper} (k : ∀ a, fB n fs a → wpList P l.toArray (Exit.then (y.wp P Q) Q) l a w) : ∀ a, fB n fs a → (Code.seq (Code.region id l.toArray false) y).wp P Q a w := fun a hf => X.l (k a hf)
theorem Ws (k : ∀ a, fB n fs a → x.wp P (Exit.then (fun a w => y.wp P Q a w) Q) a w) : ∀ a, fB n fs a → (Code.seq x y).wp P Q a w := fun a hf => wp_seq (k a hf)
theorem Rl {id : Nat} {l : List Oper} (k : ∀ a, fB n fs a → wpList P l.toArray Q l a w) : ∀ a, fB n fs a → (Code.region id l.toArray false).wp P Q a w := fun a hf => R.list (k a hf)
theorem Wb {id : Nat} {c : Code} (k : ∀ a, fB n fs a → c.wp P (Exit.inBlock id Q) a w) : ∀ a, fB n fs a → (Code.block id c).wp P Q a w := fun a hf => wp_block (k a hf)
theorem Wsk (k : ∀ a, fB n fs a → Q .normal a w) : ∀ a, fB n fs a → (Code.skip).wp P Q a w := fun a hf => wp_skip (k a hf)
theorem Xt (k : ∀ a, fB n fs a → J a w) : ∀ a, fB n fs a → Exit.then J Q .normal a w := fun a hf => X.eH (k a hf)
theorem Xb {id : Nat} (k : ∀ a, fB n fs a → Q .normal a w) : ∀ a, fB n fs a → Exit.inBlock id Q .normal a w := fun a hf => X.blk (k a hf)
theorem Hsp (hf : fB n fs a) (hs : U w) {d : Nat} {b : Bool} (i : Nat) (hi : ops[i]? = some o) (e : okv n ops fs o true = some d) (hrun : ∀ a w, fB n fs a → U w → kC P o a w (.bool b)) (kt : b = true → ∀ a, fB n ((d, .bool true) :: fs) a → wpAnyH P .any ops (gu Q) U fuel (listed.setIfInBounds i true) a w) (kf : b = false → ∀ a, fB n ((d, .bool false) :: fs) a → wpAnyH P .any ops (gu Q) U fuel (listed.setIfInBounds i true) a w) (h : okh ops listed i = true := by kernel_rfl) : wpAnyH P .any ops (gu Q) U (fuel + 1) listed a w :=
  H.split hf hs hi (iy e).1 (iy e).2.1 (iy e).2.2 (pK h).1 (pK h).2.1 (pK h).2.2 hrun kt kf
theorem Sc (hf : fB n fs a) {x : Operand} {xs : Array Operand} {ts : Array TypeId} {f : FuncId} {vs : List Value} {d : Nat} {R : Value → World → Prop} (hc : Ret P f vs.toArray w R) (e : okv n ops fs o true = some d) (ho : o.op = .call ⟨.value x, xs, ts⟩) (hx : ev fs x = some (.func (.func f) #[] #[])) (hxs : evs fs xs.toList = some vs)
    (hcf : ∀ args w, (callFunc f args).run P w = .ok (.enter f args) w) (k : ∀ v a w', fB n ((d, v) :: fs) a → R v w' → wpList P ops Q rest a w') : wpList P ops Q (o :: rest) a w :=
  S.call hf (iy e).1 (iy e).2.1 (iy e).2.2 (Cm ho hx hxs hcf) hc k
theorem Su (hf : fB n fs a) {x : Operand} {xs : Array Operand} {ts : Array TypeId} {f : FuncId} {vs : List Value} {d : Nat} (hc : Ret P f vs.toArray w fun v' w' => v' = v ∧ Sat w none_ [] w') (e : okv n ops fs o true = some d) (ho : o.op = .call ⟨.value x, xs, ts⟩) (hx : ev fs x = some (.func (.func f) #[] #[])) (hxs : evs fs xs.toList = some vs)
    (hcf : ∀ args w, (callFunc f args).run P w = .ok (.enter f args) w) (k : ∀ a w', fB n ((d, v) :: fs) a → Sat w none_ [] w' → wpList P ops Q rest a w') : wpList P ops Q (o :: rest) a w :=
  S.Om hf (iy e).1 (iy e).2.1 (iy e).2.2 (Cm ho hx hxs hcf) hc k
theorem Hs {id : Nat} (hs : Sat w0 N σ w) (hm : P.follows .mixedOrders = true) (h : Sat w0 N σ w.drew → wpAnyH P .any ops (gu Q) (Sat w0 N σ) ops.size (Array.replicate ops.size false) a w.drew) : (Code.region id ops true).wp P Q a w := H.start hm (h hs.drew)
theorem Hm {id : Nat} {τ : List gJ} (ht : Sat w0 N τ w) (hs : Sat w0 N σ w) (hm : P.follows .mixedOrders = true) (h : Sat w0 N σ w.drew → wpAnyH P .any ops (gu Q) (Sat w0 N τ) ops.size (Array.replicate ops.size false) a w.drew) : (Code.region id ops true).wp P Q a w := H.start hm (h hs.drew)
theorem Ci (hf : fB n fs a) {b : Bool} {A B : Prop} (h : (b = true → A) ∧ (b = false → B)) {z : Operand} (e : ev fs z = some (.bool b)) (k1 : b = true → A → x.wp P Q a w) (k2 : b = false → B → y.wp P Q a w) : (Code.cond z x y).wp P Q a w := C.cond hf e (fun c => k1 c (h.1 c)) (fun c => k2 c (h.2 c))
theorem Si (hf : fB n fs a) (hs : Sat w0 N σ w) {b : Bool} {A B : Prop} (h : (b = true → A) ∧ (b = false → B)) {d : Nat} (e : okv n ops fs o true = some d) (hrun : ∀ a w, fB n fs a → Sat w0 N σ w → kC P o a w (.bool b)) (k1 : b = true → A → ∀ a, fB n ((d, .bool true) :: fs) a → wpList P ops Q rest a w) (k2 : b = false → B → ∀ a, fB n ((d, .bool false) :: fs) a → wpList P ops Q rest a w) : wpList P ops Q (o :: rest) a w :=
  S.split hf hs (iy e).1 (iy e).2.1 (iy e).2.2 hrun (fun c => k1 c (h.1 c)) (fun c => k2 c (h.2 c))
def Ox (fs : Fr) : Fr → Option Fr
  | [] => some []
  | p :: r => match lk fs p.1, Ox fs r with
    | some x, some l => some ((p.1, x) :: l)
    | _, _ => none
theorem fB.pk {gs : Fr} (h : fB n fs a) (e : Ox fs gs = some gs) : fB n gs a := by
  refine h.sub ?_
  have key : ∀ (gs gs' : Fr), Ox fs gs = some gs' → ∀ p ∈ gs', lk fs p.1 = some p.2 := by
    intro gs
    induction gs with
    | nil => intro gs' e p hp; injection e with e; subst e; cases hp
    | cons q r ih =>
      intro gs' e p hp
      unfold Ox at e
      split at e
      · rename_i x l h1 h2
        injection e with e; subst e
        rcases List.mem_cons.1 hp with hp | hp
        · subst hp; exact h1
        · exact ih l h2 p hp
      · cases e
  exact key gs gs e
def frs : List Nat → List gJ → Option (List gJ)
  | [], σ => some σ
  | k :: r, σ => match σ[k]? with
    | some p => frs r (p :: σ.eraseIdx k)
    | none => none
theorem Sat.fr {σ' : List gJ} (hs : Sat w0 N σ w) (l : List Nat) (e : frs l σ = some σ') : Sat w0 N σ' w := by
  induction l generalizing σ with
  | nil => injection e with e; subst e; exact hs
  | cons k r ih =>
    unfold frs at e
    split at e
    · rename_i p hp; exact ih (hs.front k hp) e
    · cases e
theorem fB.ts {α : Type} (h : fB n fs a) (t : Nat) (xs : List α) (i : Nat) (z : α) {A : Option Addr} {C : Nat} (e : lk fs t = some (.slice A xs.length C)) : fB n ((t, .slice A (xs.set i z).length C) :: fs) a :=
  h.tell t ((h.get t _ e).trans (congrArg (fun n => Value.slice A n C) List.length_set.symm))
theorem Lr {fn : Func} {t : Nat} {v : Value} {R : Value → World → Prop} (hf : fB n fs a) (hr : fn.results = #[.tmp t]) (e : lk fs t = some v) (h : R v w) : bodyPost P fn (fun e w' => ∃ v, e = .returned v ∧ R v w') .ret a w := L.ret hf (iV hr (iH.tmp hf e)) h
theorem Ls {fn : Func} {t t' : Nat} {v v' : Value} {R : Value → World → Prop} (hf : fB n fs a) (hr : fn.results = #[.tmp t, .tmp t']) (e : lk fs t = some v) (e' : lk fs t' = some v') (h : R (.tuple #[v, v']) w) : bodyPost P fn (fun e w' => ∃ v, e = .returned v ∧ R v w') .ret a w := L.ret hf (xq hr (iH.tmp hf e) (iH.tmp hf e')) h
theorem Va {α : Type} [Rep α] {A : Option Addr} {C : Nat} {xs : List α} (hv : View w0 (old w0 N) A C xs) (hs : Sat w0 N σ w) : View w (old w none_) A C xs := (Ag.args _ _ _).view hv hs
theorem Ve {A : Option Addr} {k : Nat} {cs : List Value} (h : iW w0 (old w0 N) A k cs) (hs : Sat w0 N σ w) : iW w (old w none_) A k cs := (Ag.args _ _ _).elem h hs
theorem RFL {α : Sort _} {a : α} : a = a := rfl
end
class RowK (α : Type) (T : outParam Type) [Rep α] [Flat T] where
  same : Rep.sz α = Flat.sz T
section
variable {α T : Type} [Rep α] [Flat T]
def hrd (sh : List T) (zs : List α) : gJ :=
  ⟨fun w F => ∀ (i : Nat) (s : T) (z : α), sh[i]? = some s → zs[i]? = some z → Rep.rd w F (Flat.enc s) z, fun h hb i s z h1 h2 => Rep.mono (h i s z h1 h2) (fun b hF => ⟨hF, hb b hF⟩)⟩
def hkept [k : RowK α T] (e : TypeId) (A : Option Addr) (C : Nat) (zs : List α) : gJ :=
  ⟨fun w F => ∃ sh : List T, sh.length = zs.length ∧ (hall [hown e A C sh, hrd sh zs]).holds w F, fun ⟨sh, hl, h⟩ hb => ⟨sh, hl, (hall [hown e A C sh, hrd sh zs]).loc h hb⟩⟩
variable [RowK α T] {w w0 : World} {M : Nat → Prop} {σ L : List gJ} {p q : gJ} {e : TypeId} {A : Option Addr} {C : Nat} {zs : List α}
theorem Sat.weaken (h : Sat w0 M (p :: σ) w) (hp : ∀ w F, p.holds w F → q.holds w F) : Sat w0 M (q :: σ) w := by
  obtain ⟨F, h1, h2, h3⟩ := h.sat
  exact ⟨h.keeps, F, hp _ _ h1, h2, h3⟩
theorem Sat.Pj (h : Sat w0 M (hkept e A C zs :: σ) w) : ∃ sh : List T, sh.length = zs.length ∧ Sat w0 M (hown e A C sh :: hrd sh zs :: σ) w := by
  obtain ⟨F, ⟨sh, hl, h1⟩, h2, h3⟩ := h.sat
  exact ⟨sh, hl, Sat.SN (L := [hown e A C sh, hrd sh zs]) ⟨h.keeps, F, h1, h2, h3⟩⟩
theorem Sat.J4 {sh : List T} (hl : sh.length = zs.length) (h : Sat w0 M (hown e A C sh :: hrd sh zs :: σ) w) : Sat w0 M (hkept e A C zs :: σ) w :=
  Sat.weaken (Sat.PS (L := [hown e A C sh, hrd sh zs]) h) fun _ _ h => ⟨sh, hl, h⟩
theorem Sat.GX (h : Sat w0 M σ w) (e : TypeId) : Sat w0 M (hkept e none 0 ([] : List α) :: σ) w :=
  Sat.J4 (sh := ([] : List T)) rfl (Sat.qi (h.add (p := hrd ([] : List T) ([] : List α)) (Keeps.refl _ _) (F' := fun _ => False) (fun i s z h1 => by simp at h1) (fun _ e => e.elim)) e)
theorem Io {β : Type} [Flat β] {xs : List β} {F : Nat → Prop} (hp : (hown e A C xs).holds w F) : View w F A C xs :=
  ⟨(vV hp).1, (vV hp).2, fun i x hx => ⟨Flat.enc x, zX hp hx, rfl⟩⟩
theorem O3 {β γ U : Type} [Rep γ] [Flat β] [Flat U] [Row1 γ β U] {e' : TypeId} {as : List (Option Addr × Nat)} {ys : List γ} {F : Nat → Prop} (hp : (hrows e e' A C as ys).holds w F) : View w F A C ys := by
  obtain ⟨hl, F1, h1, h2, h3⟩ := hp
  have hb := vV h1
  rw [zH hl] at hb
  refine ⟨hb.1, hb.2, fun i z hz => ?_⟩
  obtain ⟨⟨B, D⟩, ha⟩ : ∃ a, as[i]? = some a := ⟨_, List.getElem?_eq_getElem (by rw [hl]; exact TL hz)⟩
  have hel := zX h1 (yu hz ha)
  have hst := uz (e' := e') hz ha
  have key : ∀ (L : List gJ) (U : Nat → Prop) (k : Nat) (p : gJ), ji w F L U → L[k]? = some p → ∃ G, p.holds w G ∧ ∀ b, G b → F b := by
    intro L
    induction L with
    | nil => intro U k p _ h; simp at h
    | cons x r ih =>
      rintro U k p ⟨G, g1, g2, g3⟩ hk
      cases k with
      | zero => simp at hk; subst hk; exact ⟨G, g1, fun b hb => (g2 b hb).1⟩
      | succ k => exact ih _ k p g3 (by simpa using hk)
  obtain ⟨G, g1, g2⟩ := key _ _ i _ h3 hst
  exact ⟨_, by rw [Row1.same]; exact hel.mono fun b hb => ⟨h2 b hb, rfl⟩, Row1.rep ((Io g1).mono fun b hb => ⟨g2 b hb, rfl⟩)⟩
theorem Sat.freeze (h : Sat w0 M (hkept e A C zs :: σ) w) : ∃ (W : World) (F : Nat → Prop), View W F A C zs ∧ Sat w0 M (JP W F :: σ) w := by
  obtain ⟨F, ⟨sh, hl, G1, g1, g2, G2, g3, g4, _⟩, h2, h3⟩ := h.sat
  refine ⟨w, F, ⟨?_, (vV g1).2, fun i z hz => ?_⟩, h.keeps, F, ⟨fun _ _ => rfl, fun _ => Iff.rfl⟩, h2, h3⟩
  · rw [← hl]; exact (vV g1).1
  · have hs : sh[i]? = some (sh[i]'(by rw [hl]; exact TL hz)) := List.getElem?_eq_getElem _
    exact ⟨Flat.enc _, by rw [RowK.same (α := α) (T := T)]; exact (zX g1 hs).mono fun b hb => ⟨(g2 b hb).1, rfl⟩, Rep.mono (g3 i _ z hs hz) fun b hb => ⟨(g4 b hb).1, rfl⟩⟩
variable {P : Program} {n : Nat} {fs : Fr} {a : Act} {o : Oper} {v : Value} {ops : Array Oper} {rest : List Oper} {Q : Exit → Act → World → Prop}
theorem S.N7 {B : Option Addr} {D : Nat} {s : T} (L : List gJ) (hf : fB n fs a) (hs : Sat w0 M (hkept e A C zs :: hown e B D [s] :: (L ++ σ)) w) {d : Nat} (hg : gv ops fs o = some true) (hd : o.dst = some d) (hdn : Nat.blt d n = true) (z : α) (hr : ∀ w F, (hall L).holds w F → Rep.rd w F (Flat.enc s) z) {x y : Operand} {t : TypeId} {bytes : Nat} {zc : List Value}
    (ho : o.op = .call ⟨.builtin .append, #[x, y], #[t, t]⟩) (hx : ev fs x = some (.slice A zs.length C)) (hy : ev fs y = some (.slice B 1 D)) (ht : P.underlying t = some (.slice e)) (hi : uY P e (Flat.sz T) bytes zc) (hzc : zc.length = Flat.sz T) (hroom : room (zs ++ [z]).length bytes)
    (k : ∀ A' C' a w', fB n ((d, .slice A' (zs ++ [z]).length C') :: fs) a → Sat w0 M (hkept e A' C' (zs ++ [z]) :: σ) w' → wpList P ops Q rest a w') : wpList P ops Q (o :: rest) a w := by
  obtain ⟨sh, hl, hs1⟩ := hs.Pj
  have hv := hs1.fQ 2 rfl
  have e1 : (sh ++ [s]).length = (zs ++ [z]).length := by rw [List.length_append, List.length_append, hl]; rfl
  refine S.jq 0 hf hs1 hg hd hdn rfl ho (by rw [hl]; exact hx) hy ht hi hzc (by rw [e1]; exact hroom) (hv.some_ (i := 0) (by simp)) hv (fun A' C' a w' hf hs2 => k A' C' a w' (by rw [e1] at hf; exact hf) ?_)
  have hs3 : Sat w0 M (hown e A' C' (sh ++ [s]) :: hrd sh zs :: hown e B D [s] :: (L ++ σ)) w' := hs2
  have hs4 := (hs3.front 2 rfl).drop
  have hs5 : Sat w0 M ((hrd sh zs :: L) ++ (hown e A' C' (sh ++ [s]) :: σ)) w' := hs4.perm (by
    show (hown e A' C' (sh ++ [s]) :: hrd sh zs :: (L ++ σ)).Perm _
    exact (List.perm_middle (l₁ := hrd sh zs :: L)).symm)
  have hs6 := Sat.weaken (q := hrd (sh ++ [s]) (zs ++ [z])) (Sat.PS hs5) (fun w F h => by
    obtain ⟨F1, h1, h2, h3⟩ := h
    intro i u y hu hy
    rcases Nat.lt_or_ge i sh.length with hi | hi
    · rw [List.getElem?_append_left hi] at hu
      rw [List.getElem?_append_left (by omega)] at hy
      exact Rep.mono (h1 i u y hu hy) fun b hb => ⟨(h2 b hb).1, rfl⟩
    · rw [List.getElem?_append_right hi] at hu
      rw [List.getElem?_append_right (by omega)] at hy
      have h0 : i - sh.length = 0 := by have := TL hu; simp at this; omega
      have h0' : i - zs.length = 0 := by omega
      rw [h0] at hu; rw [h0'] at hy
      simp at hu hy
      subst hu; subst hy
      exact hr w F (ji.mono h3 (fun _ h => h) (fun b _ _ e => e) (fun _ _ _ => rfl)))
  exact Sat.J4 e1 (hs6.front 1 rfl)
end
end Go.Proofs.YtbegofbmbcghdaaGreatDoor
