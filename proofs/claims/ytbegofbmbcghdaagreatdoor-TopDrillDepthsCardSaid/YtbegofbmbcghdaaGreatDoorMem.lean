/- Chapter texts of ours, as far as the claim needs them. -/
import Derived.Test.YtbegofbmbcghdaaGreatDoorOps
namespace Go.Proofs.YtbegofbmbcghdaaGreatDoor
open Go Go.RowKit
set_option linter.unusedVariables false
set_option linter.unusedSectionVars false
set_option linter.unusedSimpArgs false
abbrev Str := List UInt8
def ba (s : Str) : ByteArray := ⟨s.toArray⟩
theorem xC (s : Str) : (ba s).data.toList = s := by simp [ba]
theorem vN (s : Str) : (ba s).size = s.length := by simp [ba, ByteArray.size]
class Flat (α : Type) where
  sz : Nat
  pos : 0 < sz
  enc : α → List Value
  len : ∀ x, (enc x).length = sz
  one : ∀ x, ∀ v ∈ enc x, v.oneCell' = true
class Rep (α : Type) where
  sz : Nat
  pos : 0 < sz
  rd : World → (Nat → Prop) → List Value → α → Prop
  len : ∀ {w F cs x}, rd w F cs x → cs.length = sz
  mono : ∀ {w w' : World} {F F' : Nat → Prop} {cs x}, rd w F cs x → (∀ b, F b → F' b ∧ w'.heap[b]? = w.heap[b]?) → rd w' F' cs x
instance Rx {α : Type} [Flat α] : Rep α := ⟨Flat.sz α, Flat.pos, fun _ _ cs x => cs = Flat.enc x, fun h => h ▸ Flat.len _, fun h _ => h⟩
instance RD : Flat Int := ⟨1, Nat.one_pos, fun n => [.int .i64 n], fun _ => rfl, fun _ v hv => by simp at hv; subst hv; rfl⟩
instance Q7 : Flat Bool := ⟨1, Nat.one_pos, fun n => [.bool n], fun _ => rfl, fun _ v hv => by simp at hv; subst hv; rfl⟩
instance RI : Flat Str := ⟨1, Nat.one_pos, fun n => [.string (ba n)], fun _ => rfl, fun _ v hv => by simp at hv; subst hv; rfl⟩
def fA (A : Option Addr) (k : Nat) : Value := match A with
  | some ad => .pointer (some (ad.add k))
  | none => undef
def iW (w : World) (F : Nat → Prop) (A : Option Addr) (k : Nat) (cs : List Value) : Prop :=
  ∃ ad, A = some ad ∧ F ad.block ∧ ∀ j v, cs[j]? = some v → w.cell? (ad.add (k + j)) = some v
structure View {α : Type} [Rep α] (w : World) (F : Nat → Prop) (A : Option Addr) (C : Nat) (xs : List α) : Prop where
  cap : xs.length ≤ C
  most : C ≤ maxLen
  at_ : ∀ i x, xs[i]? = some x → ∃ cs, iW w F A (i * Rep.sz α) cs ∧ Rep.rd w F cs x
theorem block_add (a : Addr) (n : Nat) : (a.add n).block = a.block := by unfold Addr.add; split <;> rfl
theorem add_add' (a : Addr) (i j : Nat) : (a.add i).add j = a.add (i + j) := by
  unfold Addr.add
  by_cases hi : i = 0 <;> by_cases hj : j = 0 <;> simp [hi, hj, Nat.add_assoc]
theorem iW.mono {w w' : World} {F F' : Nat → Prop} {A : Option Addr} {k : Nat} {cs : List Value} (h : iW w F A k cs) (hF : ∀ b, F b → F' b ∧ w'.heap[b]? = w.heap[b]?) : iW w' F' A k cs := by
  obtain ⟨ad, rfl, hb, hc⟩ := h
  exact ⟨ad, rfl, (hF _ hb).1, fun j v hv => (World.cell?_of_block (by rw [block_add]; exact (hF _ hb).2)).trans (hc j v hv)⟩
theorem View.mono {α : Type} [Rep α] {w w' : World} {F F' : Nat → Prop} {A : Option Addr} {C : Nat} {xs : List α} (h : View w F A C xs) (hF : ∀ b, F b → F' b ∧ w'.heap[b]? = w.heap[b]?) : View w' F' A C xs :=
  ⟨h.cap, h.most, fun i x hx => by
    obtain ⟨cs, he, hr⟩ := h.at_ i x hx
    exact ⟨cs, he.mono hF, Rep.mono hr hF⟩⟩
instance Mc {α : Type} [Rep α] : Rep (List α) :=
  ⟨1, Nat.one_pos, fun w F cs xs => ∃ A C, cs = [.slice A xs.length C] ∧ View w F A C xs, fun ⟨_, _, h, _⟩ => by rw [h]; rfl, fun ⟨A, C, h, hv⟩ hF => ⟨A, C, h, hv.mono hF⟩⟩
section
variable {α : Type} [Flat α] {w : World} {F : Nat → Prop} {A : Option Addr} {C : Nat} {xs : List α}
theorem View.flat (h : View w F A C xs) {i : Nat} {x : α} (hx : xs[i]? = some x) : iW w F A (i * Flat.sz α) (Flat.enc x) := by
  obtain ⟨cs, he, hr⟩ := h.at_ i x hx
  have hr' : cs = Flat.enc x := hr
  rw [hr'] at he
  exact he
end
theorem View.some_ {α : Type} [Rep α] {w : World} {F : Nat → Prop} {A : Option Addr} {C : Nat} {xs : List α} (h : View w F A C xs) {i : Nat} (hi : i < xs.length) : A.isSome = true := by
  obtain ⟨cs, ⟨ad, rfl, _⟩, _⟩ := h.at_ i _ (List.getElem?_eq_getElem hi)
  rfl
def hbox (g : Nat) (e : TypeId) (vs : List Value) : gJ :=
  ⟨fun w F => w.heap[g]? = some (.cells vs.toArray e (0, 0)) ∧ ∀ b, F b ↔ b = g, fun ⟨h, hF⟩ hb => ⟨(hb g ((hF g).2 rfl)).trans h, hF⟩⟩
theorem LX {w w' : World} {base : Nat} {e : TypeId} {size n : Nat} {v : Value} {cs : List Value} (h : w.ownsRow base e size v n cs) (hb : ∀ b, v.ownBlock = some b → w'.heap[b]? = w.heap[b]?) : w'.ownsRow base e size v n cs := by
  refine ⟨h.1, ?_⟩
  rcases h.2 with h | ⟨g, cap, cur, rfl, hg, hh, r⟩
  · exact .inl h
  · exact .inr ⟨g, cap, cur, rfl, hg, (hb g rfl).trans hh, r⟩
def hown {α : Type} [Flat α] (e : TypeId) (A : Option Addr) (C : Nat) (xs : List α) : gJ :=
  ⟨fun w F => w.ownsRow 0 e (Flat.sz α) (.slice A xs.length C) xs.length (xs.flatMap Flat.enc) ∧ ∀ b, F b ↔ (Value.slice A xs.length C).ownBlock = some b,
    fun ⟨h, hF⟩ hb => ⟨LX h (fun b hv => hb b ((hF b).2 hv)), hF⟩⟩
def JP (wR : World) (G : Nat → Prop) : gJ :=
  ⟨fun w F => (∀ b, G b → w.heap[b]? = wR.heap[b]?) ∧ ∀ b, F b ↔ G b, fun ⟨h, hF⟩ hb => ⟨fun b hg => (hb b ((hF b).2 hg)).trans (h b hg), hF⟩⟩
def Ag (w0 : World) (M : Nat → Prop) (σ : List gJ) (wR : World) (F : Nat → Prop) : Prop := ∀ w, Sat w0 M σ w → ∀ b, F b → b < w.heap.size ∧ w.heap[b]? = wR.heap[b]?
def old (w0 : World) (M : Nat → Prop) : Nat → Prop := fun b => b < w0.heap.size ∧ ¬ M b
abbrev none_ : Nat → Prop := fun _ => False
theorem Ag.args (w0 : World) (M : Nat → Prop) (σ : List gJ) : Ag w0 M σ w0 (old w0 M) := fun w h b hb => ⟨Nat.lt_of_lt_of_le hb.1 h.keeps.size, h.keeps.block b hb.1 hb.2⟩
theorem Ag.view {w0 w wR : World} {M : Nat → Prop} {σ : List gJ} {F : Nat → Prop} (ag : Ag w0 M σ wR F) {α : Type} [Rep α] {A : Option Addr} {C : Nat} {xs : List α} (hv : View wR F A C xs) (hs : Sat w0 M σ w) : View w (old w none_) A C xs :=
  hv.mono fun b hb => ⟨⟨(ag w hs b hb).1, fun e => e⟩, (ag w hs b hb).2⟩
theorem Sat.nth {w0 w : World} {M : Nat → Prop} {σ : List gJ} {p : gJ} (h : Sat w0 M σ w) {k : Nat} (hk : σ[k]? = some p) : ∃ F : Nat → Prop, p.holds w F ∧ ∀ b, F b → b < w.heap.size := by
  obtain ⟨F, hp, hF, _⟩ := (h.front k hk).sat
  exact ⟨F, hp, fun b hb => (hF b hb).1.2⟩
theorem Ag.Ld {w0 : World} {M : Nat → Prop} {σ : List gJ} {wR : World} {G : Nat → Prop} (k : Nat) (hk : σ[k]? = some (JP wR G)) : Ag w0 M σ wR G := fun w h b hb => by
  obtain ⟨F, ⟨hp, hF⟩, hlt⟩ := h.nth hk
  exact ⟨hlt b ((hF b).2 hb), hp b hb⟩
def mkv (agg : Bool) (cs : List Value) : Option Value := if agg then some (.agg cs.toArray) else cs[0]?
section
variable {P : Program} {w : World}
theorem zL {t : TypeId} {agg : Bool} {m : Nat} (hag : ∀ w, (isAgg t).run P w = .ok agg w) (hsz : ∀ w, (Go.sizeOf t).run P w = .ok m w) (ad : Addr) (cs : List Value) (hl : cs.length = m)
    (hc : ∀ j v, cs[j]? = some v → w.cell? (ad.add j) = some v) {v : Value} (hv : mkv agg cs = some v) : (Instr.loadAt t (.pointer (some ad))).run P w = .ok v w := by
  have e : (Instr.loadAt t (.pointer (some ad))).run P w = (loadVar t ad).run P w := rfl
  rw [e]
  unfold loadVar
  simp only [Sem.run_bind, hag, Result.andThen_ok]
  cases agg with
  | true =>
    have := run_loadCells_list (P := P) w ad cs hc
    rw [hl] at this
    simp only [mkv, if_true, Option.some.injEq] at hv
    simp only [if_true, Sem.run_bind, hsz, Result.andThen_ok, this]
    rw [← hv]; rfl
  | false =>
    simp only [mkv, Bool.false_eq_true, if_false] at hv
    have := hc 0 v hv
    have e0 : ad.add 0 = ad := rfl
    rw [e0] at this
    simp only [Bool.false_eq_true, if_false, run_load, this]
theorem EI {t : TypeId} {m : Nat} (hsz : ∀ w, (Go.sizeOf t).run P w = .ok m w) (g o : Nat) (e : TypeId) (cur : Array Value) (hg : w.heap[g]? = some (.cells cur e (0, 0))) (v : Value) (vs : List Value) (hv : v.cells = vs.toArray) (hl : vs.length = m)
    (hfit : o + m ≤ cur.size) (h1 : ∀ u ∈ vs, u.oneCell' = true) :
    (Instr.storeAt t (.pointer (some ⟨g, o, none⟩)) v).run P w = .ok () (w.setRow g (cur.toList.take o ++ vs ++ cur.toList.drop (o + m)).toArray) := by
  have er : (Instr.storeAt t (.pointer (some ⟨g, o, none⟩)) v).run P w = (storeVar t ⟨g, o, none⟩ v).run P w := rfl
  rw [er]
  unfold storeVar
  have := run_storeCells_at P g o e vs 0 cur w hg (by omega) h1
  simp only [Nat.add_zero, hl] at this
  simp only [Sem.run_bind, hsz, Result.andThen_ok, hv, List.size_toArray, hl, ne_eq, not_true, if_false, this]
end
theorem jD {α : Type} [Flat α] : ∀ (xs : List α) (i : Nat) (x : α), xs[i]? = some x → ∀ j, j < Flat.sz α → (xs.flatMap Flat.enc)[i * Flat.sz α + j]? = (Flat.enc x)[j]?
  | [], i, x, h, _, _ => by simp at h
  | y :: r, 0, x, h, j, hj => by
    simp at h; subst h
    rw [List.flatMap_cons, List.getElem?_append_left (by rw [Flat.len]; omega)]
    simp
  | y :: r, i + 1, x, h, j, hj => by
    simp at h
    rw [List.flatMap_cons, List.getElem?_append_right (by rw [Flat.len]; rw [Nat.add_mul]; omega), Flat.len]
    rw [show (i + 1) * Flat.sz α + j - Flat.sz α = i * Flat.sz α + j by rw [Nat.add_mul]; omega]
    exact jD r i x h j hj
theorem fV {α : Type} [Flat α] (xs : List α) : (xs.flatMap Flat.enc).length = xs.length * Flat.sz α := by
  induction xs with
  | nil => simp
  | cons x r ih => simp [List.flatMap_cons, Flat.len, ih, Nat.add_mul, Nat.add_comm]
theorem Bl {α : Type} [Flat α] : ∀ (xs : List α) (i : Nat) (y : α), i < xs.length →
    (xs.flatMap Flat.enc).take (i * Flat.sz α) ++ Flat.enc y ++ (xs.flatMap Flat.enc).drop (i * Flat.sz α + Flat.sz α) = (xs.set i y).flatMap Flat.enc
  | [], i, y, h => by simp at h
  | x :: r, 0, y, h => by
    simp only [Nat.zero_mul, List.take_zero, List.nil_append, Nat.zero_add, List.set_cons_zero, List.flatMap_cons]
    rw [List.drop_append_of_le_length (by rw [Flat.len]; exact Nat.le_refl _), List.drop_eq_nil_of_le (by rw [Flat.len]; exact Nat.le_refl _), List.nil_append]
  | x :: r, i + 1, y, h => by
    simp only [List.flatMap_cons, List.set_cons_succ]
    have hl : (Flat.enc x).length = Flat.sz α := Flat.len x
    rw [← Bl r i y (by simpa using h)]
    rw [show (i + 1) * Flat.sz α = (Flat.enc x).length + i * Flat.sz α by rw [hl, Nat.add_mul]; omega]
    rw [List.take_length_add_append]
    rw [show (Flat.enc x).length + i * Flat.sz α + Flat.sz α = (Flat.enc x).length + (i * Flat.sz α + Flat.sz α) by omega]
    rw [List.drop_length_add_append]
    simp [List.append_assoc]
section
variable {P : Program} {n : Nat} {fs : Fr} {a : Act} {o : Oper} {v : Value} {ops : Array Oper} {rest : List Oper} {Q : Exit → Act → World → Prop} {w w0 : World} {M : Nat → Prop} {σ : List gJ}
theorem V.pure (hp : AY fs o.op = some v) : ∀ a w, fB n fs a → Sat w0 M σ w → kC P o a w v := fun a w hf _ => Fg hf hp w
theorem jg {s : Sem Value} {a : Act} (he : execOp a.eval o = (do pure (.value (← s)) : Sem Next)) (hr : s.run P w = .ok v w) : kC P o a w v := by
  unfold kC; rw [he, Sem.run_bind, hr]; rfl
theorem V.len {t : TypeId} {x : Operand} {A : Option Addr} {l C : Nat} {e : TypeId} (ho : o.op = .call ⟨.builtin .len, #[x], #[t]⟩) (hx : ev fs x = some (.slice A l C))
    (ht : ∀ w, (underlying t).run P w = .ok (.slice e) w) : ∀ a w, fB n fs a → Sat w0 M σ w → kC P o a w (.int .i64 l) := fun a w hf _ => by
  have e1 := hf.gX hx
  unfold kC execOp
  simp only [ho, resolve, invoke, builtin, Sem.run_bind, Sem.run_pure, Result.andThen_ok, List.map_toArray, List.map_cons, List.map_nil, e1, Builtin.len_]
  simp [Sem.run_bind, ht, goInt]
theorem V.BU {t : TypeId} {x : Operand} {s : Str} (ho : o.op = .call ⟨.builtin .len, #[x], #[t]⟩) (hx : ev fs x = some (.string (ba s)))
    (ht : ∀ w, (underlying t).run P w = .ok .string w) : ∀ a w, fB n fs a → Sat w0 M σ w → kC P o a w (.int .i64 s.length) := fun a w hf _ => by
  have e1 := hf.gX hx
  unfold kC execOp
  simp only [ho, resolve, invoke, builtin, Sem.run_bind, Sem.run_pure, Result.andThen_ok, List.map_toArray, List.map_cons, List.map_nil, e1, Builtin.len_]
  simp [Sem.run_bind, ht, goInt, vN]
theorem V.eF {s : TypeId} {x : Operand} {f : Nat} {g off off' : Nat} {fls : Array Field} {fl : Field} {m : Nat} (ho : o.op = .fieldAddr s x f) (hx : ev fs x = some (.pointer (some ⟨g, off, none⟩)))
    (hs : ∀ w, (underlying s).run P w = .ok (.struct fls) w) (hf' : fls[f]? = some fl) (hm : ∀ w, (Go.sizeOf fl.type).run P w = .ok m w) (hm0 : Nat.beq m 0 = false) (hoff : Nat.beq off' (off + fl.offset) = true) :
    ∀ a w, fB n fs a → Sat w0 M σ w → kC P o a w (.pointer (some ⟨g, off', none⟩)) := fun a w hf _ => by
  have e1 := hf.gX hx
  have hne : ¬ m = 0 := fun e => by rw [e] at hm0; cases hm0
  have ho' := Nat.eq_of_beq_eq_true hoff
  refine jg (s := Instr.fieldAt s (a.eval x) f) (by unfold execOp; rw [ho]) ?_
  rw [e1]
  unfold Instr.fieldAt
  simp only [Sem.run_bind, hs, Result.andThen_ok, hf', Instr.sureAddr, Sem.run_pure, fieldPlace, hm, hne, if_false, Addr.add_lit, ho']
theorem V.iZ {s : TypeId} {x : Operand} {f : Nat} {A : Option Addr} {k k' : Nat} {fls : Array Field} {fl : Field} {m : Nat} (ho : o.op = .fieldAddr s x f) (hx : ev fs x = some (fA A k)) (hA : A.isSome = true)
    (hs : ∀ w, (underlying s).run P w = .ok (.struct fls) w) (hf' : fls[f]? = some fl) (hm : ∀ w, (Go.sizeOf fl.type).run P w = .ok m w) (hm0 : Nat.beq m 0 = false) (hk : k' = k + fl.offset) :
    ∀ a w, fB n fs a → Sat w0 M σ w → kC P o a w (fA A k') := fun a w hf _ => by
  have e1 := hf.gX hx
  have hne : ¬ m = 0 := fun e => by rw [e] at hm0; cases hm0
  obtain ⟨ad, rfl⟩ := Option.isSome_iff_exists.1 hA
  refine jg (s := Instr.fieldAt s (a.eval x) f) (by unfold execOp; rw [ho]) ?_
  rw [e1]
  unfold Instr.fieldAt fA
  simp only [Sem.run_bind, hs, Result.andThen_ok, hf', Instr.sureAddr, Sem.run_pure, fieldPlace, hm, hne, if_false, add_add', hk]
theorem V.index {t : TypeId} {x i : Operand} {A : Option Addr} {l C : Nat} {e : TypeId} {z : Int} {m k : Nat} (ho : o.op = .indexAddr t x i) (hx : ev fs x = some (.slice A l C)) (hi : ev fs i = some (.int .i64 z))
    (ht : ∀ w, (underlying t).run P w = .ok (.slice e) w) (hm : ∀ w, (Go.sizeOf e).run P w = .ok m w) (hA : A.isSome = true) (h0 : 0 ≤ z) (h1 : z.toNat < l) (hk : k = z.toNat * m) :
    ∀ a w, fB n fs a → Sat w0 M σ w → kC P o a w (fA A k) := fun a w hf _ => by
  have e1 := hf.gX hx
  have e2 := hf.gX hi
  obtain ⟨ad, rfl⟩ := Option.isSome_iff_exists.1 hA
  refine jg (s := Instr.indexAt t (a.eval x) (a.eval i)) (by unfold execOp; rw [ho]) ?_
  rw [e1, e2]
  have hz : 0 ≤ z ∧ z < (l : Int) := ⟨h0, by omega⟩
  unfold Instr.indexAt fA
  simp only [Sem.run_bind, asIntOf, Sem.run_pure, Result.andThen_ok, ht, hz, and_self, if_true, hm, hk]
theorem V.eG (k : Nat) {t : TypeId} {x : Operand} {g off m : Nat} {e : TypeId} {vs : List Value} {agg : Bool} (hk : σ[k]? = some (hbox g e vs)) (ho : o.op = .load t x) (hx : ev fs x = some (.pointer (some ⟨g, off, none⟩)))
    (hag : ∀ w, (isAgg t).run P w = .ok agg w) (hsz : ∀ w, (Go.sizeOf t).run P w = .ok m w) (hl : Nat.beq ((vs.drop off).take m).length m = true) (hv : mkv agg ((vs.drop off).take m) = some v) :
    ∀ a w, fB n fs a → Sat w0 M σ w → kC P o a w v := fun a w hf hs => by
  have e1 := hf.gX hx
  obtain ⟨F, ⟨hg, _⟩, _⟩ := hs.nth hk
  refine jg (s := Instr.loadAt t (a.eval x)) (by unfold execOp; rw [ho]) ?_
  rw [e1]
  refine zL hag hsz _ ((vs.drop off).take m) (Nat.eq_of_beq_eq_true hl) (fun j u hu => ?_) hv
  rw [Addr.add_lit, cell_of_row w g (off + j) vs.toArray e (0, 0) hg]
  rw [List.getElem?_take] at hu
  split at hu
  · rw [List.getElem?_drop] at hu; simpa using hu
  · cases hu
theorem V.fP {wR : World} {F : Nat → Prop} (ag : Ag w0 M σ wR F) {A : Option Addr} {k k' off m : Nat} {cs : List Value} (he : iW wR F A k cs) {t : TypeId} {x : Operand} {agg : Bool} (ho : o.op = .load t x) (hx : ev fs x = some (fA A k'))
    (hk : k' = k + off) (hag : ∀ w, (isAgg t).run P w = .ok agg w) (hsz : ∀ w, (Go.sizeOf t).run P w = .ok m w) (hl : ((cs.drop off).take m).length = m) (hv : mkv agg ((cs.drop off).take m) = some v) :
    ∀ a w, fB n fs a → Sat w0 M σ w → kC P o a w v := fun a w hf hs => by
  have e1 := hf.gX hx
  obtain ⟨ad, rfl, hb, hc⟩ := he
  refine jg (s := Instr.loadAt t (a.eval x)) (by unfold execOp; rw [ho]) ?_
  rw [e1]
  unfold fA
  refine zL hag hsz _ ((cs.drop off).take m) hl (fun j u hu => ?_) hv
  rw [List.getElem?_take] at hu
  split at hu
  · rw [List.getElem?_drop] at hu
    rw [add_add', hk, Nat.add_assoc]
    exact (World.cell?_of_block (by rw [block_add]; exact (ag w hs _ hb).2)).trans (hc _ u hu)
  · cases hu
theorem yc {α : Type} [Flat α] {e : TypeId} {A : Option Addr} {C : Nat} {xs : List α} {F : Nat → Prop} (h : (hown e A C xs).holds w F) {i : Nat} (hi : i < xs.length) :
    ∃ g cur, A = some ⟨g, 0, none⟩ ∧ w.heap[g]? = some (.cells cur e (0, 0)) ∧ xs.length ≤ C ∧ C ≤ maxLen ∧ cur.size = C * Flat.sz α ∧ cur.toList.take (xs.length * Flat.sz α) = xs.flatMap Flat.enc ∧ ∀ b, F b ↔ b = g := by
  obtain ⟨⟨_, h2⟩, hF⟩ := h
  rcases h2 with ⟨_, h0⟩ | ⟨g, cap, cur, hv, _, hh, h3, h4, h5, h6⟩
  · omega
  · injection hv with hA _ hC
    subst hC
    subst hA
    exact ⟨g, cur, rfl, hh, h3, h4, h5, h6, fun b => (hF b).trans (by simp [Value.ownBlock]; exact eq_comm)⟩
theorem zX {α : Type} [Flat α] {e : TypeId} {A : Option Addr} {C : Nat} {xs : List α} {F : Nat → Prop} (h : (hown e A C xs).holds w F) {i : Nat} {x : α} (hx : xs[i]? = some x) :
    iW w F A (i * Flat.sz α) (Flat.enc x) := by
  obtain ⟨hi, hxe⟩ := List.getElem?_eq_some_iff.1 hx
  obtain ⟨g, cur, rfl, hh, _, _, _, ht, hF⟩ := yc h hi
  refine ⟨_, rfl, (hF g).2 rfl, fun j v hv => ?_⟩
  have hj : j < Flat.sz α := by rw [← Flat.len x]; exact (List.getElem?_eq_some_iff.1 hv).1
  rw [Addr.add_lit, Nat.zero_add, cell_of_row w g _ cur e (0, 0) hh]
  rw [← jD xs i x hx j hj, ← ht, List.getElem?_take] at hv
  split at hv
  · simpa using hv
  · cases hv
theorem Sat.fQ {w0 w : World} {M : Nat → Prop} {σ : List gJ} (hs : Sat w0 M σ w) (q : Nat) {α : Type} [Flat α] {e : TypeId} {A : Option Addr} {C : Nat} {xs : List α} (hq : σ[q]? = some (hown e A C xs)) : View w (old w none_) A C xs := by
  obtain ⟨F, hp, hlt⟩ := hs.nth hq
  have hcap : xs.length ≤ C ∧ C ≤ maxLen := by
    rcases hp.1.2 with ⟨hv, h0⟩ | ⟨g, cap, cur, hv, _, _, h3, h4, _⟩
    · injection hv with _ hl hC; subst hC; exact ⟨by omega, Nat.zero_le _⟩
    · injection hv with _ _ hC; subst hC; exact ⟨h3, h4⟩
  exact ⟨hcap.1, hcap.2, fun i x hx => ⟨Flat.enc x, (zX hp hx).mono fun b hb => ⟨⟨hlt b hb, fun e => e⟩, rfl⟩, rfl⟩⟩
theorem Sat.jd {w0 w : World} {M : Nat → Prop} {σ : List gJ} (hs : Sat w0 M σ w) (q : Nat) {α : Type} [Flat α] {e : TypeId} {A : Option Addr} {C : Nat} {xs : List α} (hq : σ[q]? = some (hown e A C xs)) {i : Nat} (hi : i < xs.length) : A.isSome = true :=
  (hs.fQ q hq).some_ hi
theorem TL {α : Type} {xs : List α} {i : Nat} {x : α} (h : xs[i]? = some x) : i < xs.length := (List.getElem?_eq_some_iff.1 h).1
theorem View.iL {α : Type} [Rep α] {w : World} {F : Nat → Prop} {A : Option Addr} {C : Nat} {xs : List α} (h : View w F A C xs) : xs.length ≤ 9223372036854775807 := by
  have := h.cap; have := h.most; unfold maxLen at this; omega
theorem V.cmp (b : Bool) {op : BinOp} {t ty : TypeId} {x y : Operand} {m n' : Int} {b' : Bool} (ho : o.op = .binOp op t x y ty) (hx : ev fs x = some (.int .i64 m)) (hy : ev fs y = some (.int .i64 n')) (hb : AV op .i64 m n' = some (.bool b')) (hbb : b' = b) :
    ∀ a w, fB n fs a → Sat w0 M σ w → kC P o a w (.bool b) := fun a w hf _ => Fg hf (by rw [ho]; simp only [AY, hx, hy, Ez, hb, hbb]) w
theorem V.jb {k l : Nat} {t ty : TypeId} {x y : Operand} (ho : o.op = .binOp .add t x y ty) (hx : ev fs x = some (.int .i64 (k : Int))) (hy : ev fs y = some (.int .i64 1)) (hk : k < l) (hl : l ≤ 9223372036854775807) :
    ∀ a w, fB n fs a → Sat w0 M σ w → kC P o a w (.int .i64 ((k + 1 : Nat) : Int)) := fun a w hf _ => Fg hf (by
      rw [ho]; simp only [AY, hx, hy, Ez, AV, Option.some.injEq, Value.int.injEq, true_and]
      rw [IntKind.wrap_i64]; omega) w
theorem V.max2 {ts : Array TypeId} {x y : Operand} {m n' : Int} (ho : o.op = .call ⟨.builtin .max, #[x, y], ts⟩) (hx : ev fs x = some (.int .i64 m)) (hy : ev fs y = some (.int .i64 n')) :
    ∀ a w, fB n fs a → Sat w0 M σ w → kC P o a w (.int .i64 (max m n')) := fun a w hf _ => by
  have e1 := hf.gX hx
  have e2 := hf.gX hy
  have : (if n' > m then n' else m) = max m n' := by omega
  unfold kC execOp
  simp only [ho, resolve, invoke, builtin, Sem.run_bind, Sem.run_pure, Result.andThen_ok, List.map_toArray, List.map_cons, List.map_nil, e1, e2, Builtin.max_]
  simp [Builtin.max2, this]
theorem V.jh (q : Nat) {α : Type} [Flat α] {e : TypeId} {A : Option Addr} {C : Nat} {xs : List α} (hq : σ[q]? = some (hown e A C xs)) {i k' off m : Nat} {y : α} (hy : xs[i]? = some y) {t : TypeId} {x : Operand} {agg : Bool} (ho : o.op = .load t x) (hx : ev fs x = some (fA A k'))
    (hk : k' = i * Flat.sz α + off) (hag : ∀ w, (isAgg t).run P w = .ok agg w) (hsz : ∀ w, (Go.sizeOf t).run P w = .ok m w) (hl : (((Flat.enc y).drop off).take m).length = m) (hv : mkv agg (((Flat.enc y).drop off).take m) = some v) :
    ∀ a w, fB n fs a → Sat w0 M σ w → kC P o a w v := fun a w hf hs => by
  have e1 := hf.gX hx
  obtain ⟨F, hp, _⟩ := hs.nth hq
  obtain ⟨ad, hA, hb, hc⟩ := zX hp hy
  subst hA
  refine jg (s := Instr.loadAt t (a.eval x)) (by unfold execOp; rw [ho]) ?_
  rw [e1]
  unfold fA
  refine zL hag hsz _ (((Flat.enc y).drop off).take m) hl (fun j u hu => ?_) hv
  rw [List.getElem?_take] at hu
  split at hu
  · rw [List.getElem?_drop] at hu
    rw [add_add', hk, Nat.add_assoc]
    exact hc _ u hu
  · cases hu
end
end Go.Proofs.YtbegofbmbcghdaaGreatDoor
