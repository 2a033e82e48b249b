/- Chapter texts of ours, as far as the claim needs them. -/
import Derived.Test.YtbegofbmbcghdaaGreatDoorMaps
import Derived.Lib.SliceRun
namespace Go.Proofs.YtbegofbmbcghdaaGreatDoor
open Go Go.RowKit
set_option linter.unusedVariables false
set_option linter.unusedSectionVars false
set_option linter.unusedSimpArgs false
section
variable {w w0 : World} {M : Nat → Prop} {σ L : List gJ} {p q : gJ}
theorem ji.parts {Z : Nat → Prop} {σ : List gJ} : ∀ {L : List gJ} {U : Nat → Prop}, ji w Z (L ++ σ) U → ∃ F : Nat → Prop, (∀ b, F b → Z b ∧ ¬ U b) ∧ ji w F L U ∧ ji w Z σ (fun b => U b ∨ F b)
  | [], U, h => ⟨fun _ => False, fun _ e => e.elim, trivial, ji.mono h (fun _ h => h) (fun b _ hn e => e.elim hn (fun e => e)) (fun _ _ _ => rfl)⟩
  | p :: L, U, ⟨F1, hp, hF1, hr⟩ => by
    obtain ⟨F2, h2, h3, h4⟩ := ji.parts (L := L) hr
    refine ⟨fun b => F1 b ∨ F2 b, fun b hb => ?_, ⟨F1, hp, fun b hb => ⟨.inl hb, (hF1 b hb).2⟩, ji.mono h3 (fun b hb => .inr hb) (fun _ _ hn => hn) (fun _ _ _ => rfl)⟩, ji.mono h4 (fun _ h => h) (fun b _ hn e => hn ?_) (fun _ _ _ => rfl)⟩
    · rcases hb with hb | hb
      · exact hF1 b hb
      · exact ⟨(h2 b hb).1, fun e => (h2 b hb).2 (.inl e)⟩
    · rcases e with e | e | e
      · exact .inl (.inl e)
      · exact .inl (.inr e)
      · exact .inr e
theorem ji.nth {Z : Nat → Prop} : ∀ {σ : List gJ} {U : Nat → Prop} {k : Nat} {p : gJ}, ji w Z σ U → σ[k]? = some p → ∃ G : Nat → Prop, p.holds w G ∧ ∀ b, G b → Z b ∧ ¬ U b
  | [], _, _, _, _, hk => by simp at hk
  | q :: σ, U, 0, p, ⟨F, hp, hF, _⟩, hk => by simp at hk; subst hk; exact ⟨F, hp, hF⟩
  | q :: σ, U, k + 1, p, ⟨F, hp, hF, hr⟩, hk => by
    obtain ⟨G, h1, h2⟩ := ji.nth hr (show σ[k]? = some p by simpa using hk)
    exact ⟨G, h1, fun b hb => ⟨(h2 b hb).1, fun e => (h2 b hb).2 (.inl e)⟩⟩
theorem Sat.je (L : List gJ) {σ : List gJ} (h : Sat w0 M (L ++ σ) w) : ∃ F : Nat → Prop, Sat w F L w ∧ (∀ (w' : World) (L' : List gJ), Sat w F L' w' → Sat w0 M (L' ++ σ) w') ∧ (∀ b, old w0 M b → old w F b) ∧
    (∀ (k : Nat) (p : gJ), σ[k]? = some p → ∃ G : Nat → Prop, p.holds w G ∧ ∀ b, G b → old w F b) := by
  obtain ⟨F, hF, hL, hr⟩ := ji.parts h.sat
  refine ⟨F, ⟨Keeps.refl _ _, ji.mono hL (fun b hb => ⟨.inl hb, (hF b hb).1.2⟩) (fun _ _ h => h) (fun _ _ _ => rfl)⟩, fun w' L' h' => ?_, fun b hb => ⟨Nat.lt_of_lt_of_le hb.1 h.keeps.size, fun e => ?_⟩, fun k p hk => ?_⟩
  · have key : ∀ (L : List gJ) (U : Nat → Prop), ji w' (fun b => (F b ∨ w.heap.size ≤ b) ∧ b < w'.heap.size) L U → (∀ b, U b → F b ∨ w.heap.size ≤ b) → ji w' (fun b => (M b ∨ w0.heap.size ≤ b) ∧ b < w'.heap.size) (L ++ σ) U := by
      intro L
      induction L with
      | nil =>
        intro U _ hU
        refine ji.mono hr (fun b hz => ⟨hz.1, Nat.lt_of_lt_of_le hz.2 h'.keeps.size⟩) (fun b hz hn e => ?_) (fun b hz hn => h'.keeps.block b hz.2 (fun e => hn (.inr e)))
        rcases hU b e with hx | hx
        · exact hn (.inr hx)
        · have := hz.2; omega
      | cons p L ih =>
        intro U ⟨G, hp, hG, hr'⟩ hU
        refine ⟨G, hp, fun b hb => ⟨⟨?_, (hG b hb).1.2⟩, (hG b hb).2⟩, ih _ hr' (fun b hb => ?_)⟩
        · rcases (hG b hb).1.1 with hx | hx
          · exact (hF b hx).1.1
          · exact .inr (Nat.le_trans h.keeps.size hx)
        · rcases hb with hb | hb
          · exact hU b hb
          · exact (hG b hb).1.1
    exact ⟨h.keeps.trans h'.keeps (fun b hb e => by
      rcases (hF b e).1.1 with hx | hx
      · exact hx
      · omega), key L' _ h'.sat (fun _ e => e.elim)⟩
  · rcases (hF b e).1.1 with hx | hx
    · exact hb.2 hx
    · have := hb.1; omega
  · obtain ⟨G, h1, h2⟩ := ji.nth hr hk
    exact ⟨G, h1, fun b hb => ⟨(h2 b hb).1.2, fun e => (h2 b hb).2 (.inr e)⟩⟩
theorem yR {F : Nat → Prop} (hs : Sat w0 M σ w) (hold : ∀ b, old w0 M b → old w F b) {α : Type} [Rep α] {A : Option Addr} {C : Nat} {xs : List α} (hv : View w0 (old w0 M) A C xs) : View w (old w F) A C xs :=
  hv.mono fun b hb => ⟨hold b hb, hs.keeps.block b hb.1 hb.2⟩
theorem vV {α : Type} [Flat α] {e : TypeId} {A : Option Addr} {C : Nat} {xs : List α} {G : Nat → Prop} (hp : (hown e A C xs).holds w G) : xs.length ≤ C ∧ C ≤ maxLen := by
  rcases hp.1.2 with ⟨hv, h0⟩ | ⟨g, cap, cur, hv, _, _, h3, h4, _⟩
  · injection hv with _ hl hC; subst hC; exact ⟨by omega, Nat.zero_le _⟩
  · injection hv with _ _ hC; subst hC; exact ⟨h3, h4⟩
theorem PK {F : Nat → Prop} (hrest : ∀ (k : Nat) (p : gJ), σ[k]? = some p → ∃ G : Nat → Prop, p.holds w G ∧ ∀ b, G b → old w F b) (k : Nat) {α : Type} [Flat α] {e : TypeId} {A : Option Addr} {C : Nat} {xs : List α} (hk : σ[k]? = some (hown e A C xs)) : View w (old w F) A C xs := by
  obtain ⟨G, hp, hG⟩ := hrest k _ hk
  exact ⟨(vV hp).1, (vV hp).2, fun i x hx => ⟨Flat.enc x, (zX hp hx).mono fun b hb => ⟨hG b hb, rfl⟩, rfl⟩⟩
theorem KA {F : Nat → Prop} (hrest : ∀ (k : Nat) (p : gJ), σ[k]? = some p → ∃ G : Nat → Prop, p.holds w G ∧ ∀ b, G b → old w F b) (k : Nat) {g : Nat} {e : TypeId} {vs : List Value} (hk : σ[k]? = some (hbox g e vs)) : iW w (old w F) (some ⟨g, 0, none⟩) 0 vs := by
  obtain ⟨G, ⟨hg, hG⟩, hold⟩ := hrest k _ hk
  refine ⟨_, rfl, hold g ((hG g).2 rfl), fun j v hv => ?_⟩
  rw [Addr.add_lit, Nat.zero_add, Nat.zero_add, cell_of_row w g _ vs.toArray e (0, 0) hg]
  simpa using hv
def Ot {α : Type} : List Bool → List α → List α
  | true :: m, x :: l => x :: Ot m l
  | false :: m, _ :: l => Ot m l
  | _, _ => []
theorem ji.mask {Z : Nat → Prop} : ∀ (m : List Bool) {L : List gJ} {U : Nat → Prop}, ji w Z L U → ji w Z (Ot m L) U
  | true :: m, p :: L, U, ⟨F, h1, h2, h3⟩ => ⟨F, h1, h2, ji.mask m h3⟩
  | false :: m, p :: L, U, ⟨F, h1, h2, h3⟩ => ji.mask m (ji.mono h3 (fun _ h => h) (fun b _ hn e => hn (.inl e)) (fun _ _ _ => rfl))
  | [], L, U, _ => by cases L <;> exact trivial
  | true :: m, [], U, _ => trivial
  | false :: m, [], U, _ => trivial
theorem Sat.mask (h : Sat w0 M σ w) (m : List Bool) : Sat w0 M (Ot m σ) w := ⟨h.keeps, h.sat.mask m⟩
theorem Sat.La (hs : Sat w0 M σ w) (q : Nat) {α : Type} [Flat α] {e : TypeId} {A : Option Addr} {C : Nat} {xs : List α} (hq : σ[q]? = some (hown e A C xs)) (k : Nat) (hk : k ≤ xs.length) : Sat w0 M (σ.set q (hown e A C (xs.take k))) w := by
  obtain ⟨F, hp, hlt, hupd⟩ := hs.upd q hq
  refine hupd w _ F (Keeps.refl _ _) ⟨⟨fV _, ?_⟩, ?_⟩ (fun b hb => ⟨.inl hb, hlt b hb⟩)
  · have hkl : (xs.take k).length = k := by rw [List.length_take]; omega
    rcases hp.1.2 with ⟨hv, h0⟩ | ⟨g, cap, cur, hv, hb, hh, h3, h4, h5, h6⟩
    · injection hv with h1 h2 h3
      subst h1; subst h3
      exact .inl ⟨by rw [hkl, show k = 0 by omega], by omega⟩
    · injection hv with h1 h2 h3'
      subst h1; subst h3'
      refine .inr ⟨g, C, cur, rfl, hb, hh, by omega, h4, h5, ?_⟩
      have : cur.toList.take (k * Flat.sz α) = (cur.toList.take (xs.length * Flat.sz α)).take (k * Flat.sz α) := by
        rw [List.take_take, Nat.min_eq_left (Nat.mul_le_mul_right _ hk)]
      rw [hkl, this, h6]
      have hx : xs.flatMap Flat.enc = (xs.take k).flatMap Flat.enc ++ (xs.drop k).flatMap Flat.enc := by rw [← List.flatMap_append, List.take_append_drop]
      have hl : ((xs.take k).flatMap Flat.enc).length = k * Flat.sz α := by rw [fV, hkl]
      rw [hx, ← hl, List.take_left']
      rfl
  · intro b
    refine (hp.2 b).trans ?_
    cases A <;> simp [Value.ownBlock]
end
def RY {α : Type} (xs : List α) (k : Bool → Prop) : Prop := ∀ b : Bool, (b = true → xs = []) → k b
theorem View.Ph {α : Type} [Rep α] {w : World} {F : Nat → Prop} {A : Option Addr} {C : Nat} {xs : List α} (h : View w F A C xs) (hA : A.isNone = true) : xs = [] := by
  cases xs with
  | nil => rfl
  | cons x r =>
    have := h.some_ (i := 0) (by simp)
    cases A <;> simp_all
theorem AX {α : Type} {xs : List α} {lo hi : Int} {i : Nat} {x : α} (h : (seg xs lo hi)[i]? = some x) : xs[lo.toNat + i]? = some x := by
  simp only [seg, List.getElem?_drop, List.getElem?_take] at h
  split at h
  · exact h
  · cases h
theorem Qg {α : Type} {xs : List α} {k i : Nat} {x : α} (h : (xs.take k)[i]? = some x) : xs[i]? = some x := by
  rw [List.getElem?_take] at h
  split at h
  · exact h
  · cases h
theorem View.take {α : Type} [Rep α] {w : World} {F : Nat → Prop} {A : Option Addr} {C : Nat} {xs : List α} (h : View w F A C xs) (k : Nat) : View w F A C (xs.take k) :=
  ⟨by have := h.cap; rw [List.length_take]; omega, h.most, fun i x hx => h.at_ i x (by rw [List.getElem?_take] at hx; split at hx; exact hx; cases hx)⟩
section
variable {P : Program} {n : Nat} {fs : Fr} {a : Act} {o : Oper} {v : Value} {ops : Array Oper} {rest : List Oper} {Q : Exit → Act → World → Prop} {w w0 : World} {M : Nat → Prop} {σ : List gJ}
theorem V.RF (b : Bool) {t ty e : TypeId} {x y : Operand} {A : Option Addr} {l C l' C' : Nat} (ho : o.op = .binOp .eql t x y ty) (hx : ev fs x = some (.slice A l C)) (hy : ev fs y = some (.slice none l' C')) (ht : P.underlying t = some (.slice e)) (hg : P.eqGuardType P.depth t = false) (hb : b = A.isNone) :
    ∀ a w, fB n fs a → Sat w0 M σ w → kC P o a w (.bool b) := fun a w hf _ => by
  have e1 := hf.gX hx
  have e2 := hf.gX hy
  refine jg (s := (do eqGuard .eql t x y (a.eval x) (a.eval y); binOp .eql t (a.eval x) (a.eval y))) (by unfold execOp; rw [ho]) ?_
  rw [e1, e2, hb]
  have := Lib.run_eql_slice_nil (P := P) w t e A l C l' C' ht
  unfold eqGuard
  simp [this]
theorem S.Hr (hf : fB n fs a) (hs : Sat w0 M σ w) {d : Nat} (hg : gv ops fs o = some true) (hd : o.dst = some d) (hdn : Nat.blt d n = true) {α : Type} [Flat α] {t : TypeId} {e : TypeId}
    (ho : o.op = .buildSlice t 0 #[]) (ht : ∀ w, (underlying t).run P w = .ok (.slice e) w) (hsz : ∀ w, (Go.sizeOf e).run P w = .ok (Flat.sz α) w)
    (k : ∀ A a w', fB n ((d, .slice A ([] : List α).length 0) :: fs) a → Sat w0 M (hown e A 0 ([] : List α) :: σ) w' → wpList P ops Q rest a w') : wpList P ops Q (o :: rest) a w := by
  refine S.act (R := fun v w' => ∃ A, v = .slice A ([] : List α).length 0 ∧ Sat w0 M (hown e A 0 ([] : List α) :: σ) w') hf hg hd hdn (fun a hf => ?_) (fun v a w' hf ⟨A, hv, hs⟩ => k A a w' (hv ▸ hf) hs)
  refine ⟨_, _, ?_, some ⟨w.heap.size, 0, none⟩, rfl, hs.add (Keeps.alloc w (.cells #[] e) _) (F' := fun b => b = w.heap.size) ⟨⟨by simp, ?_⟩, fun b => by simp [Value.ownBlock]; exact eq_comm⟩ (fun b hb => by subst hb; simp)⟩
  · have hop : execOp a.eval o = (do Pure.pure (Next.value (← Instr.buildSlice t 0 #[])) : Sem Next) := by
      unfold execOp
      simp only [ho]
      rw [show (#[] : Array (Nat × Operand)).map (fun x => (x.1, a.eval x.2)) = #[] by simp]
    have hrun : (Instr.buildSlice t 0 #[]).run P w = .ok (.slice (some ⟨w.heap.size, 0, none⟩) 0 0) (w.alloc (.cells #[] e)) := by
      unfold Instr.buildSlice
      simp only [Sem.run_bind, ht, Result.andThen_ok, hsz, Nat.zero_mul]
      simp [Instr.fill, newRow]
      rw [show (Array.range 0).map (fun _ => (default : Value)) = #[] by simp]
    rw [hop, Sem.run_bind, hrun]
    rfl
  · exact .inr ⟨w.heap.size, 0, #[], rfl, Nat.zero_le _, lU w _, Nat.le_refl _, Nat.zero_le _, by simp, by simp⟩
theorem V.yT {t : TypeId} {x i : Operand} {A : Option Addr} {l C c' : Nat} {e : TypeId} {lo z : Int} {m k : Nat} (ho : o.op = .indexAddr t x i) (hx : ev fs x = some (.slice (iY A C lo.toNat m) l c')) (hi : ev fs i = some (.int .i64 z))
    (ht : ∀ w, (underlying t).run P w = .ok (.slice e) w) (hm : ∀ w, (Go.sizeOf e).run P w = .ok m w) (hA : A.isSome = true) (h0 : 0 ≤ z) (h1 : z.toNat < l) (hl : lo.toNat + l ≤ C) (hk : k = (lo.toNat + z.toNat) * m) :
    ∀ a w, fB n fs a → Sat w0 M σ w → kC P o a w (fA A k) := fun a w hf hs => by
  obtain ⟨ad, rfl⟩ := Option.isSome_iff_exists.1 hA
  have hseg : iY (some ad) C lo.toNat m = some (ad.add (lo.toNat * m)) := by
    unfold iY
    rw [if_neg (by omega)]
    rfl
  have := V.index (n := n) (fs := fs) (w0 := w0) (M := M) (σ := σ) (A := iY (some ad) C lo.toNat m) ho hx hi ht hm (by rw [hseg]; rfl) h0 h1 rfl a w hf hs
  rw [hseg] at this
  unfold fA at this ⊢
  simp only [add_add'] at this ⊢
  rw [hk, Nat.add_mul]
  exact this
theorem V.EF {α : Type} {t e : TypeId} {x : Operand} {lo : Option Operand} {hi : Operand} {zl : Option Int} {A : Option Addr} {xs : List α} {C sz : Nat} {H : Int} (ho : o.op = .slice t x lo (some hi) none) (hx : ev fs x = some (.slice A xs.length C)) (hlo : evB fs lo = some zl) (hhi : ev fs hi = some (.int .i64 H))
    (ht : ∀ w, (underlying t).run P w = .ok (.slice e) w) (hsz : ∀ w, (Go.sizeOf e).run P w = .ok sz w) (hL : zl.getD 0 = 0) (hb : 0 ≤ H ∧ H ≤ xs.length) (hC : xs.length ≤ C) :
    ∀ a w, fB n fs a → Sat w0 M σ w → kC P o a w (.slice A (xs.take H.toNat).length C) := fun a w hf hs => by
  have h := V.slice (n := n) (w0 := w0) (M := M) (σ := σ) (L := 0) (H := H) (l' := (xs.take H.toNat).length) ho hx hlo (by show (match ev fs hi with | some (.int .i64 z) => some (some z) | _ => none) = _; rw [hhi]) ht hsz hL rfl ⟨Int.le_refl _, hb.1, hb.2⟩ hC (by rw [List.length_take]; simp; omega) a w hf hs
  have e : iY A C (0 : Int).toNat sz = A := by
    unfold iY
    split
    · rfl
    · cases A with
      | none => rfl
      | some ad => simp [Addr.add]
  rw [e] at h
  simpa using h
end
theorem jA {α : Type} {xs ys : List α} {lo hi : Int} (h : ys.length = xs.length) : (seg ys lo hi).length = (seg xs lo hi).length := by
  simp only [seg, List.length_drop, List.length_take, h]
theorem zx {α : Type} {xs : List α} {lo hi : Int} {C : Nat} (h : 0 ≤ lo ∧ lo ≤ hi ∧ hi ≤ (xs.length : Int)) (hc : xs.length ≤ C) : lo.toNat + (seg xs lo hi).length ≤ C := by
  rw [seg_length (by omega)]; omega
section
variable {P : Program} {n : Nat} {fs : Fr} {a : Act} {ops : Array Oper} {Q : Exit → Act → World → Prop} {w w0 : World} {M : Nat → Prop} {σ : List gJ} {K : World → Prop} {fuel i j : Nat} {listed : Array Bool} {oi oj : Oper} {vi vj : Value} {di dj : Nat}
theorem fB.swap2 (h : fB n ((di, vi) :: (dj, vj) :: fs) a) (hd : Nat.beq di dj = false) : fB n ((dj, vj) :: (di, vi) :: fs) a := by
  have hd' : Nat.beq dj di = false := by
    cases hx : Nat.beq dj di
    · rfl
    · rw [Nat.eq_of_beq_eq_true hx, Nat.beq_refl] at hd; cases hd
  refine ⟨h.size, h.defers, fun t v hv => h.get t v ?_⟩
  unfold lk at hv ⊢
  unfold lk at hv ⊢
  cases h1 : Nat.beq t di <;> cases h2 : Nat.beq t dj <;> simp only [h1, h2, cond_true, cond_false] at hv ⊢ <;> try exact hv
  have e1 := Nat.eq_of_beq_eq_true h1
  have e2 := Nat.eq_of_beq_eq_true h2
  rw [e1] at e2
  rw [e2, Nat.beq_refl] at hd
  cases hd
theorem H.op {o : Oper} {K1 : Act → World → Prop} {Q : Exit → Act → World → Prop} (hi : ops[i]? = some o) (h : wpList P ops (Exit.then K1 Q) [o] a w) : wpOp P ops Q i K1 a w := by
  unfold wpOp
  rw [hi]
  exact h
theorem H.alloc2 (hf : fB n fs a) (hs : Sat w0 M σ w) (hS : ∀ w, Sat w0 M σ w → K w) (hi : ops[i]? = some oi) (hj : ops[j]? = some oj) (hdi : oi.dst = some di) (hdj : oj.dst = some dj) (hni : Nat.blt di n = true) (hnj : Nat.blt dj n = true) (hne : Nat.beq di dj = false)
    (hgi : gv ops fs oi = some true) (hgj : ∀ v : Value, gv ops ((di, v) :: fs) oj = some true) (hgj' : gv ops fs oj = some true) (hgi' : ∀ v : Value, gv ops ((dj, v) :: fs) oi = some true)
    (hr : Region.ready .any ops listed = [i, j]) (hri : Region.ready .any ops (listed.setIfInBounds i true) = [j]) (hrj : Region.ready .any ops (listed.setIfInBounds j true) = [i])
    (hl : (listed.setIfInBounds i true).setIfInBounds j true = (listed.setIfInBounds j true).setIfInBounds i true)
    {ei ej : TypeId} (zi zj : List Value) (hoi : oi.op = .alloc ei) (hoj : oj.op = .alloc ej) (hzi : ∀ w, (zeroValue ei).run P w = .ok vi w) (hvi : vi.cells = zi.toArray) (hzj : ∀ w, (zeroValue ej).run P w = .ok vj w) (hvj : vj.cells = zj.toArray)
    (k : ∀ gi gj a w, fB n ((dj, .pointer (some ⟨gj, 0, none⟩)) :: (di, .pointer (some ⟨gi, 0, none⟩)) :: fs) a → Sat w0 M (hbox gj ej zj :: hbox gi ei zi :: σ) w → wpAnyH P .any ops (gu Q) K fuel ((listed.setIfInBounds i true).setIfInBounds j true) a w) : wpAnyH P .any ops (gu Q) K (fuel + 1 + 1) listed a w := by
  refine wpAnyH_all hr (by simp) (fun x hx => ?_)
  have hx' : x = i ∨ x = j := by simpa using hx
  rcases hx' with rfl | rfl
  · refine H.op hi ?_
    refine S.alloc hf hs hgi hdi hni zi hoi hzi hvi (fun gi a w hf hs => R.nil (X.eH ⟨hS w hs.drop, H.one hj hri ?_⟩))
    exact S.alloc hf hs (hgj _) hdj hnj zj hoj hzj hvj (fun gj a w hf hs => R.nil (X.eH ⟨hS w hs.drop.drop, k gi gj a w hf hs⟩))
  · refine H.op hj ?_
    refine S.alloc hf hs hgj' hdj hnj zj hoj hzj hvj (fun gj a w hf hs => R.nil (X.eH ⟨hS w hs.drop, H.one hi hrj ?_⟩))
    exact S.alloc hf hs (hgi' _) hdi hni zi hoi hzi hvi (fun gi a w hf hs => R.nil (X.eH ⟨hS w hs.drop.drop, by
      rw [← hl]; exact k gi gj a w (hf.swap2 hne) (hs.perm (List.Perm.swap _ _ _))⟩))
end
end Go.Proofs.YtbegofbmbcghdaaGreatDoor
