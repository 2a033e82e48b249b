/- Chapter texts of ours, as far as the claim needs them. -/
import Derived.WalkKit
import Derived.OwnWalk
import Derived.Deep.Quiet
import Derived.Laws.AppendOwn
import Derived.Laws.MakeOwn
namespace Go.Proofs.YtbegofbmbcghdaaGreatDoor
open Go Go.RowKit
set_option linter.unusedVariables false
set_option linter.unusedSectionVars false
set_option linter.unusedSimpArgs false
def NF : Bool := true
structure Keeps (w : World) (M : Nat → Prop) (w' : World) : Prop where
  os : w'.os = w.os
  tape : w'.tape = w.tape
  output : w'.output = w.output
  size : w.heap.size ≤ w'.heap.size
  block : ∀ b, b < w.heap.size → ¬ M b → w'.heap[b]? = w.heap[b]?
  drawn : NF = true → w.drawn ≤ w'.drawn
theorem FC {α : Type} : ∀ (x : Ask α) (w : World), w.drawn ≤ (w.ask x).2.drawn
  | .done a, w => Nat.le_refl _
  | .ask what range k, w => by
    unfold World.ask
    simp only
    split
    · exact FC (k 0) w
    · exact Nat.le_trans (Nat.le_succ _) (FC (k _) { w with drawn := w.drawn + 1 })
theorem OV (w : World) (c : Sys) : w.drawn ≤ (w.sys c).2.drawn := by
  have h := FC (Kernel.perform c w.os) w
  unfold World.sys
  split
  · exact Nat.le_refl _
  · rename_i r os w' hh
    rw [hh] at h
    exact h
theorem bind_ok {ε α β : Type} {x : Except ε α} {f : α → Except ε β} {r : β} (h : x >>= f = Except.ok r) : ∃ y, x = Except.ok y ∧ f y = Except.ok r := by
  cases x with
  | error e => cases h
  | ok y => exact ⟨y, rfl, h⟩
theorem En {ε α : Type} {e : ε} {r : α} (h : (MonadExcept.throw e : Except ε α) = Except.ok r) : False := by cases h
theorem Gw {p : Program} {w w' : World} {at_ k : Addr} {u : TypeId} {v : Value} {b : Bool} {l : List Addr} (hv : w.viewStore p at_ u k v b = .ok (w', l)) : w'.drawn = w.drawn := by
  unfold World.viewStore at hv
  rcases hb : v.bytes? with _ | bytes
  · simp only [hb] at hv
    split at hv
    · obtain ⟨_, h1, _⟩ := bind_ok hv; exact (En h1).elim
    · obtain ⟨y, h1, hv⟩ := bind_ok hv
      exact (En hv).elim
  · simp only [hb] at hv
    split at hv
    · obtain ⟨_, h1, _⟩ := bind_ok hv; exact (En h1).elim
    · obtain ⟨y, h1, hv⟩ := bind_ok hv
      split at hv
      · obtain ⟨_, h1, _⟩ := bind_ok hv; exact (En h1).elim
      · obtain ⟨c, _, hv⟩ := bind_ok hv
        injection hv with hv; injection hv with hv _; rw [← hv]
theorem He {p : Program} {w w' : World} {a : Addr} {v : Value} {at_ : Bool} {l : List Addr} (h : w.farStore p a v at_ = .ok (w', l)) : w'.drawn = w.drawn := by
  unfold World.farStore at h
  split at h
  · split at h
    · rename_i hv
      injection h with h
      subst h
      exact Gw hv
    · cases h
  · cases h
theorem run_store {P : Program} {α : Type} {m : Mode} {a : Addr} {u : Value} {k : Sem α} (ih : ∀ (w w' : World) (v : α), k.run P w = .ok v w' → w.drawn ≤ w'.drawn) (fs : ∀ {w w' : World} {l : List Addr}, w.farStore P a u (m == .atomic) = .ok (w', l) → w'.drawn = w.drawn) (w w' : World) (v : α) (h : (Sem.store m a u k).run P w = .ok v w') : w.drawn ≤ w'.drawn := by
  cases u
  all_goals (
    simp only [Sem.run] at h
    first
    | (cases h; done)
    | (split at h
       · split at h
         · cases h
         · have hx := ih _ _ _ h; exact hx
       · split at h
         · rename_i hh; have := ih _ _ _ h; rw [fs hh] at this; exact this
         · cases h))
theorem lN {P : Program} {α : Type} : ∀ (s : Sem α) (w w' : World) (v : α), s.run P w = .ok v w' → w.drawn ≤ w'.drawn
  | .pure a, w, w', v, h => by simp only [Sem.run] at h; injection h with _ h; rw [h]; exact Nat.le_refl _
  | .load m a k, w, w', v, h => by
    simp only [Sem.run] at h
    split at h
    · exact lN (k _) w w' v h
    · split at h
      · exact lN (k _) w w' v h
      · cases h
  | .store m a u k, w, w', v, h => run_store (fun w w' v => lN k w w' v) He w w' v h
  | .new o k, w, w', v, h => by simp only [Sem.run] at h; exact lN (k _) { w with heap := w.heap.push o } w' v h
  | .shape r k, w, w', v, h => by simp only [Sem.run] at h; exact lN (k _) w w' v h
  | .freeze a n k, w, w', v, h => by
    simp only [Sem.run] at h
    have := lN k _ w' v h
    unfold World.freeze at this
    split at this <;> exact this
  | .frozen a k, w, w', v, h => by simp only [Sem.run] at h; exact lN (k _) w w' v h
  | .getObj r k, w, w', v, h => by
    simp only [Sem.run] at h
    split at h
    · cases h
    · exact lN (k _) w w' v h
    · cases h
  | .setObj r o k, w, w', v, h => by
    simp only [Sem.run] at h
    split at h
    · cases h
    · exact lN k { w with heap := w.heap.setIfInBounds r o } w' v h
    · cases h
  | .choose q k, w, w', v, h => by
    simp only [Sem.run] at h
    split at h
    · exact lN (k 0) w w' v h
    · exact Nat.le_trans (Nat.le_succ _) (lN (k _) { w with drawn := w.drawn + 1 } w' v h)
  | .sys c k, w, w', v, h => by simp only [Sem.run] at h; exact Nat.le_trans (OV w c) (lN (k _) _ w' v h)
  | .program k, w, w', v, h => by simp only [Sem.run] at h; exact lN (k P) w w' v h
  | .mark m k, w, w', v, h => by simp only [Sem.run] at h; exact lN k w w' v h
  | .halt x, w, w', v, h => by simp only [Sem.run] at h; cases h
theorem Keeps.refl (w : World) (M : Nat → Prop) : Keeps w M w := ⟨rfl, rfl, rfl, Nat.le_refl _, fun _ _ _ => rfl, fun _ => Nat.le_refl _⟩
theorem Keeps.trans {w w1 w2 : World} {M M1 : Nat → Prop} (h : Keeps w M w1) (k : Keeps w1 M1 w2) (hM : ∀ b, b < w.heap.size → M1 b → M b) : Keeps w M w2 :=
  ⟨k.os.trans h.os, k.tape.trans h.tape, k.output.trans h.output, Nat.le_trans h.size k.size, fun b hb hm =>
    (k.block b (Nat.lt_of_lt_of_le hb h.size) (fun e => hm (hM b hb e))).trans (h.block b hb hm), fun e => Nat.le_trans (h.drawn e) (k.drawn e)⟩
theorem Keeps.mono {w w1 : World} {M M1 : Nat → Prop} (h : Keeps w M w1) (hM : ∀ b, b < w.heap.size → M b → M1 b) : Keeps w M1 w1 :=
  ⟨h.os, h.tape, h.output, h.size, fun b hb hm => h.block b hb (fun e => hm (hM b hb e)), h.drawn⟩
theorem Keeps.alloc (w : World) (o : Obj) (M : Nat → Prop) : Keeps w M (w.alloc o) :=
  ⟨rfl, rfl, rfl, by simp, fun b hb _ => Below.heap_alloc w o b hb, fun _ => Nat.le_refl _⟩
theorem Keeps.drew (w : World) (M : Nat → Prop) : Keeps w M w.drew := ⟨rfl, rfl, rfl, Nat.le_refl _, fun _ _ _ => rfl, fun _ => Nat.le_succ _⟩
theorem Keeps.setCell (w : World) (a : Addr) (v : Value) {M : Nat → Prop} (h : M a.block) : Keeps w M (w.setCell a v) :=
  ⟨rfl, rfl, rfl, by simp [World.setCell], fun b hb hm => Below.heap_setCell w a v b (fun e => hm (e ▸ h)), fun _ => Nat.le_refl _⟩
theorem Keeps.of_grownBy {w w' : World} {row : Option Nat} (h : w.grownBy w' row) {M : Nat → Prop} (hM : ∀ b, row = some b → M b) (hd : w.drawn ≤ w'.drawn) : Keeps w M w' :=
  ⟨h.os, h.tape, h.output, h.size, fun b hb hm => h.block b hb (fun e => hm (hM b e.symm)), fun _ => hd⟩
theorem Keeps.below {w w' : World} (h : Keeps w (fun _ => False) w') : Below w.heap.size w w' :=
  ⟨h.os, h.tape, h.output, h.size, fun b hb => h.block b hb (fun e => e)⟩
theorem Keeps.cell {w w' : World} {M : Nat → Prop} (h : Keeps w M w') {a : Addr} (hb : a.block < w.heap.size) (hm : ¬ M a.block) : w'.cell? a = w.cell? a :=
  World.cell?_of_block (h.block _ hb hm)
structure gJ where
  holds : World → (Nat → Prop) → Prop
  loc : ∀ {w w' : World} {F : Nat → Prop}, holds w F → (∀ b, F b → w'.heap[b]? = w.heap[b]?) → holds w' F
def ji (w : World) (Z : Nat → Prop) : List gJ → (Nat → Prop) → Prop
  | [], _ => True
  | p :: L, U => ∃ F : Nat → Prop, p.holds w F ∧ (∀ b, F b → Z b ∧ ¬ U b) ∧ ji w Z L (fun b => U b ∨ F b)
theorem ji.mono {w w' : World} {Z Z' : Nat → Prop} : ∀ {L : List gJ} {U U' : Nat → Prop}, ji w Z L U → (∀ b, Z b → Z' b) → (∀ b, Z b → ¬ U b → ¬ U' b) →
    (∀ b, Z b → ¬ U b → w'.heap[b]? = w.heap[b]?) → ji w' Z' L U'
  | [], _, _, _, _, _, _ => trivial
  | p :: L, U, U', ⟨F, hp, hF, hr⟩, hZ, hU, hw =>
    ⟨F, p.loc hp (fun b hb => hw b (hF b hb).1 (hF b hb).2), fun b hb => ⟨hZ b (hF b hb).1, hU b (hF b hb).1 (hF b hb).2⟩,
      ji.mono hr hZ (fun b hz hn he => by
        rcases he with he | he
        · exact hU b hz (fun e => hn (.inl e)) he
        · exact hn (.inr he)) (fun b hz hn => hw b hz (fun e => hn (.inl e)))⟩
structure Sat (w0 : World) (M : Nat → Prop) (σ : List gJ) (w : World) : Prop where
  keeps : Keeps w0 M w
  sat : ji w (fun b => (M b ∨ w0.heap.size ≤ b) ∧ b < w.heap.size) σ (fun _ => False)
section
variable {w0 w : World} {M : Nat → Prop} {σ : List gJ} {p q : gJ}
theorem Sat.start (w0 : World) (M : Nat → Prop) : Sat w0 M [] w0 := ⟨Keeps.refl _ _, trivial⟩
theorem Sat.drew (h : Sat w0 M σ w) : Sat w0 M σ w.drew := ⟨h.keeps.trans (Keeps.drew w M) (fun _ _ h => h), ji.mono h.sat (fun _ h => h) (fun _ _ h => h) (fun _ _ _ => rfl)⟩
theorem ji.swap {Z : Nat → Prop} {L : List gJ} {U : Nat → Prop} (h : ji w Z (p :: q :: L) U) : ji w Z (q :: p :: L) U := by
  obtain ⟨F, hp, hF, G, hq, hG, hr⟩ := h
  refine ⟨G, hq, fun b hb => ⟨(hG b hb).1, fun e => (hG b hb).2 (.inl e)⟩, F, hp, fun b hb => ⟨(hF b hb).1, fun e => ?_⟩, ?_⟩
  · rcases e with e | e
    · exact (hF b hb).2 e
    · exact (hG b e).2 (.inr hb)
  · refine ji.mono hr (fun _ h => h) (fun b _ hn he => hn ?_) (fun _ _ _ => rfl)
    exact he.elim (fun h => h.elim (fun h => .inl (.inl h)) .inr) (fun h => .inl (.inr h))
theorem ji.perm {Z : Nat → Prop} {L L' : List gJ} (hp : L.Perm L') : ∀ {U : Nat → Prop}, ji w Z L U → ji w Z L' U := by
  induction hp with
  | nil => exact fun h => h
  | cons x _ ih => exact fun ⟨F, h1, h2, h3⟩ => ⟨F, h1, h2, ih h3⟩
  | swap x y l => exact fun h => h.swap
  | trans _ _ ih1 ih2 => exact fun h => ih2 (ih1 h)
theorem sJ {α : Type} : ∀ (k : Nat) (l : List α) (x : α), l[k]? = some x → l.Perm (x :: l.eraseIdx k)
  | _, [], _, h => by simp at h
  | 0, y :: l, x, h => by simp at h; subst h; exact List.Perm.refl _
  | k + 1, y :: l, x, h => by
    simp only [List.getElem?_cons_succ] at h
    exact (List.Perm.cons y (sJ k l x h)).trans (List.Perm.swap x y _)
theorem Sat.front (h : Sat w0 M σ w) (k : Nat) (hk : σ[k]? = some p) : Sat w0 M (p :: σ.eraseIdx k) w := ⟨h.keeps, h.sat.perm (sJ k σ p hk)⟩
theorem Sat.perm (h : Sat w0 M σ w) {σ' : List gJ} (hp : σ.Perm σ') : Sat w0 M σ' w := ⟨h.keeps, h.sat.perm hp⟩
theorem Sat.drop (h : Sat w0 M (p :: σ) w) : Sat w0 M σ w :=
  ⟨h.keeps, by
    obtain ⟨F, _, _, hr⟩ := h.sat
    exact ji.mono hr (fun _ h => h) (fun b _ hn e => hn (.inl e)) (fun _ _ _ => rfl)⟩
theorem Sat.nil (h : Sat w0 M σ w) : Sat w0 M [] w := ⟨h.keeps, trivial⟩
theorem Sat.head (h : Sat w0 M (p :: σ) w) : ∃ F : Nat → Prop, p.holds w F ∧ (∀ b, F b → b < w.heap.size) ∧
    ∀ (w' : World) (L : List gJ), Keeps w F w' → (∀ Z : Nat → Prop, (∀ b, F b → Z b) → (∀ b, w.heap.size ≤ b → b < w'.heap.size → Z b) → ∃ F' : Nat → Prop, (∀ b, F' b → (F b ∨ w.heap.size ≤ b) ∧ b < w'.heap.size) ∧ ∀ R : List gJ, ji w' Z R F' → ji w' Z (L ++ R) (fun _ => False)) →
      Sat w0 M (L ++ σ) w' := by
  obtain ⟨F, hp, hF, hr⟩ := h.sat
  refine ⟨F, hp, fun b hb => (hF b hb).1.2, fun w' L hk hL => ⟨h.keeps.trans hk (fun b hb hf => ?_), ?_⟩⟩
  · rcases (hF b hf).1.1 with h1 | h1
    · exact h1
    · omega
  · obtain ⟨F', hF', hR⟩ := hL (fun b => (M b ∨ w0.heap.size ≤ b) ∧ b < w'.heap.size) (fun b hb => ⟨(hF b hb).1.1, Nat.lt_of_lt_of_le (hF b hb).1.2 hk.size⟩) (fun b h1 h2 => ⟨.inr (Nat.le_trans h.keeps.size h1), h2⟩)
    refine hR σ (ji.mono hr (fun b hz => ⟨hz.1, Nat.lt_of_lt_of_le hz.2 hk.size⟩) (fun b hz hn he => ?_) (fun b hz hn => hk.block b hz.2 (fun e => hn (.inr e))))
    rcases (hF' b he).1 with h1 | h1
    · exact hn (.inr h1)
    · have := hz.2; omega
theorem Sat.turn (h : Sat w0 M (p :: σ) w) : ∃ F : Nat → Prop, p.holds w F ∧ (∀ b, F b → b < w.heap.size) ∧
    ∀ (w' : World) (p' : gJ) (F' : Nat → Prop), Keeps w F w' → p'.holds w' F' → (∀ b, F' b → (F b ∨ w.heap.size ≤ b) ∧ b < w'.heap.size) → Sat w0 M (p' :: σ) w' := by
  obtain ⟨F, hp, hF, hall⟩ := h.head
  refine ⟨F, hp, hF, fun w' p' F' hk hp' hF' => hall w' [p'] hk (fun Z h1 h2 => ⟨F', hF', fun R hR => ⟨F', hp', fun b hb => ⟨?_, fun e => e⟩, ?_⟩⟩)⟩
  · rcases (hF' b hb).1 with hx | hx
    · exact h1 b hx
    · exact h2 b hx (hF' b hb).2
  · exact ji.mono hR (fun _ h => h) (fun b _ hn e => e.elim (fun h => h) hn) (fun _ _ _ => rfl)
theorem Sat.add (h : Sat w0 M σ w) {w' : World} {F' : Nat → Prop} (hk : Keeps w (fun _ => False) w') (hp' : p.holds w' F') (hF' : ∀ b, F' b → w.heap.size ≤ b ∧ b < w'.heap.size) : Sat w0 M (p :: σ) w' := by
  refine ⟨h.keeps.trans hk (fun _ _ e => e.elim), F', hp', fun b hb => ⟨⟨.inr (Nat.le_trans h.keeps.size (hF' b hb).1), (hF' b hb).2⟩, fun e => e⟩, ?_⟩
  refine ji.mono h.sat (fun b hz => ⟨hz.1, Nat.lt_of_lt_of_le hz.2 hk.size⟩) (fun b hz _ e => ?_) (fun b hz _ => hk.block b hz.2 (fun e => e))
  rcases e with e | e
  · exact e
  · have := (hF' b e).1; have := hz.2; omega
end
abbrev Fr := List (Nat × Value)
def lk : Fr → Nat → Option Value
  | [], _ => none
  | p :: r, t => bif Nat.beq t p.1 then some p.2 else lk r t
structure fB (n : Nat) (fs : Fr) (a : Act) : Prop where
  size : a.tmps.size = n
  defers : a.defers = []
  get : ∀ t v, lk fs t = some v → a.tmps.getD t undef = v
def ev (fs : Fr) : Operand → Option Value
  | .tmp t => lk fs t
  | .const v => some v
  | .global g => some (.pointer (some ⟨g, 0, none⟩))
  | .func f => some (.func (.func f) #[] #[])
section
variable {n : Nat} {fs : Fr} {a : Act} {x : Operand} {v : Value}
theorem fB.gX (h : fB n fs a) (he : ev fs x = some v) : a.eval x = v := by
  cases x with
  | tmp t => exact h.get t v he
  | const u => simpa [ev, Act.eval] using he
  | global g => simpa [ev, Act.eval] using he
  | func f => simpa [ev, Act.eval] using he
theorem fB.put (h : fB n fs a) (d : Nat) (hd : d < n) (v : Value) : fB n ((d, v) :: fs) (a.put (some d) v) := by
  refine ⟨by simp [Act.put, h.size], h.defers, fun t u hu => ?_⟩
  unfold lk at hu
  have hs : d < a.tmps.size := by rw [h.size]; exact hd
  by_cases ht : t = d
  · subst ht
    have hb : Nat.beq t t = true := Nat.beq_refl t
    simp only [hb, cond_true, Option.some.injEq] at hu
    subst hu
    simp [Act.put, hs]
  · have hb : Nat.beq t d = false := by
      cases hx : Nat.beq t d
      · rfl
      · exact absurd (Nat.eq_of_beq_eq_true hx) ht
    simp only [hb, cond_false] at hu
    have := h.get t u hu
    simp only [Act.put]
    rw [← this]
    simp only [Array.getD_eq_getD_getElem?]
    rw [Array.getElem?_setIfInBounds_ne (by omega)]
theorem fB.nil (h : fB n fs a) : fB n [] a := ⟨h.size, h.defers, fun t v hv => by simp [lk] at hv⟩
theorem fB.cons {gs : Fr} (h : fB n gs a) {t : Nat} {v : Value} (ht : a.tmps.getD t undef = v) : fB n ((t, v) :: gs) a :=
  ⟨h.size, h.defers, fun s u hu => by
    unfold lk at hu
    cases hb : Nat.beq s t
    · simp only [hb, cond_false] at hu
      exact h.get s u hu
    · simp only [hb, cond_true, Option.some.injEq] at hu
      subst hu
      rw [Nat.eq_of_beq_eq_true hb]
      exact ht⟩
theorem fB.sub {gs : Fr} (h : fB n fs a) (hs : ∀ p ∈ gs, lk fs p.1 = some p.2) : fB n gs a := by
  induction gs with
  | nil => exact h.nil
  | cons p gs ih => exact (ih (fun q hq => hs q (List.mem_cons_of_mem _ hq))).cons (h.get _ _ (hs p (List.mem_cons_self ..)))
end
def AV (op : BinOp) (k : IntKind) (a b : Int) : Option Value :=
  match op with
  | .add => some (.int k (k.wrap (a + b)))
  | .sub => some (.int k (k.wrap (a - b)))
  | .mul => some (.int k (k.wrap (a * b)))
  | .lss => some (.bool (decide (a < b)))
  | .leq => some (.bool (decide (a ≤ b)))
  | .gtr => some (.bool (decide (a > b)))
  | .geq => some (.bool (decide (a ≥ b)))
  | .eql => some (.bool (a == b))
  | .neq => some (.bool (a != b))
  | _ => none
def Ez (op : BinOp) (x y : Value) : Option Value :=
  match x, y with
  | .int .i64 a, .int .i64 b => AV op .i64 a b
  | .int .u8 a, .int .u8 b => AV op .u8 a b
  | .int .i32 a, .int .i32 b => AV op .i32 a b
  | .int .i16 a, .int .i16 b => AV op .i16 a b
  | .int .u64 a, .int .u64 b => AV op .u64 a b
  | .int .u32 a, .int .u32 b => AV op .u32 a b
  | _, _ => none
def AY (fs : Fr) (op : Op) : Option Value :=
  match op with
  | .move x => ev fs x
  | .assign x => ev fs x
  | .binOp op _ x y _ => match ev fs x, ev fs y with
    | some u, some v => Ez op u v
    | _, _ => none
  | .unOp .not _ x => match ev fs x with
    | some (.bool b) => some (.bool (!b))
    | _ => none
  | .unOp .neg _ x => match ev fs x with
    | some (.int .i64 b) => some (.int .i64 (IntKind.i64.wrap (-b)))
    | _ => none
  | .extract x i => match ev fs x with
    | some (.tuple vs) => vs[i]?
    | _ => none
  | .nilCheck x => match ev fs x with
    | some (.pointer (some p)) => some (.pointer (some p))
    | _ => none
  | .pick c x y => match ev fs c with
    | some (.bool true) => ev fs x
    | some (.bool false) => ev fs y
    | _ => none
  | .makeFunc fn first cap => match first.toList.mapM (ev fs), cap.toList.mapM (ev fs) with
    | some l, some m => some (.func fn l.toArray m.toArray)
    | _, _ => none
  | _ => none
end Go.Proofs.YtbegofbmbcghdaaGreatDoor
