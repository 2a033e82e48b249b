/- Chapter texts of ours, as far as the claim needs them. -/
import Derived.Test.YtdnilnmdbgcmoaaGreatDoorPure
import Derived.Laws.Externs
import Derived.Lib.Bytealg
namespace Go.Proofs.YtdnilnmdbgcmoaaGreatDoor
open Go Go.RowKit
set_option linter.unusedVariables false
set_option linter.unusedSectionVars false
set_option linter.unusedSimpArgs false
def cvt (k : IntKind) (n : Int) : Int := k.wrap n
def seg {α : Type} (xs : List α) (lo hi : Int) : List α := (xs.take hi.toNat).drop lo.toNat
theorem seg_length {α : Type} {xs : List α} {lo hi : Int} (h : hi.toNat ≤ xs.length) : (seg xs lo hi).length = hi.toNat - lo.toNat := by
  simp only [seg, List.length_drop, List.length_take]; omega
def segA (A : Option Addr) (C k sz : Nat) : Option Addr := if C = k then A else A.map (·.add (k * sz))
section
variable {P : Program} {n : Nat} {fs : Fr} {a : Act} {o : Oper} {v : Value} {ops : Array Oper} {rest : List Oper} {Q : Exit → Act → World → Prop} {w w0 : World} {M : Nat → Prop} {σ : List HProp}
theorem V.conv {s t : TypeId} {x : Operand} {k k' : IntKind} {z : Int} {ty : TypeDesc} (ho : o.op = .convert s t x) (hx : ev fs x = some (.int k z)) (hs : ∀ w, (underlying s).run P w = .ok ty w) (ht : ∀ w, (underlying t).run P w = .ok (.int k') w) :
    ∀ a w, FrOk n fs a → Sat w0 M σ w → RunV P o a w (.int k' (cvt k' z)) := fun a w hf _ => by
  have e1 := hf.ev_ok hx
  refine exec_value (s := convert s t (a.eval x)) (by unfold execOp; rw [ho]) ?_
  rw [e1]
  unfold convert
  simp only [Sem.run_bind, hs, ht, Result.andThen_ok, Conv.intToInt, cvt]
  rfl
theorem View.sub {α : Type} [Rep α] {F : Nat → Prop} {A : Option Addr} {C : Nat} {xs : List α} (h : View w F A C xs) {lo hi : Int} (hb : 0 ≤ lo ∧ lo ≤ hi ∧ hi ≤ xs.length) : View w F (segA A C lo.toNat (Rep.sz α)) (C - lo.toNat) (seg xs lo hi) := by
  have hc := h.cap
  have hm := h.most
  refine ⟨by rw [seg_length (by omega)]; omega, by omega, fun i x hx => ?_⟩
  have hx' : xs[lo.toNat + i]? = some x := by
    simp only [seg, List.getElem?_drop, List.getElem?_take] at hx
    split at hx
    · exact hx
    · cases hx
  obtain ⟨cs, ⟨ad, rfl, hbk, hcs⟩, hr⟩ := h.at_ _ _ hx'
  have hlt := lt_of_get hx'
  refine ⟨cs, ⟨ad.add (lo.toNat * Rep.sz α), ?_, by rw [block_add]; exact hbk, fun j v hv => ?_⟩, hr⟩
  · unfold segA
    rw [if_neg (by omega)]; rfl
  · rw [add_add', ← hcs j v hv, Nat.add_mul, Nat.add_assoc]
def evB (fs : Fr) : Option Operand → Option (Option Int)
  | none => some none
  | some x => match ev fs x with
    | some (.int .i64 z) => some (some z)
    | _ => none
theorem run_sliceBound {z : Int} {y : Nat} {code : BoundsCode} (h : 0 ≤ z ∧ z ≤ y) : (Instr.sliceBound (.int .i64 z) y code).run P w = .ok z.toNat w := by
  unfold Instr.sliceBound
  simp only [asIntOf, Sem.run_bind, Sem.run_pure, Result.andThen_ok, h, and_self, if_true]
theorem run_sliceBounds {isSlice : Bool} {len cap : Nat} {lo hi : Option Int} (hb : 0 ≤ lo.getD 0 ∧ lo.getD 0 ≤ hi.getD len ∧ hi.getD len ≤ len) (hc : len ≤ cap) :
    (Instr.sliceBounds isSlice len cap (lo.map (Value.int .i64)) (hi.map (Value.int .i64)) none).run P w = .ok ((lo.getD 0).toNat, (hi.getD len).toNat, cap) w := by
  unfold Instr.sliceBounds
  cases lo <;> cases hi <;> simp only [Option.map_none, Option.map_some, Option.getD_none, Option.getD_some] at hb ⊢
  · simp only [Sem.run_bind, Sem.run_pure, Result.andThen_ok]; rfl
  · rename_i zh
    simp only [Sem.run_bind, Sem.run_pure, Result.andThen_ok]
    rw [run_sliceBound (by omega)]; rfl
  · rename_i zl
    simp only [Sem.run_bind, Sem.run_pure, Result.andThen_ok]
    rw [run_sliceBound (by omega)]; rfl
  · rename_i zl zh
    simp only [Sem.run_bind, Sem.run_pure, Result.andThen_ok]
    rw [run_sliceBound (by omega)]
    simp only [Result.andThen_ok]
    rw [run_sliceBound (by omega)]; rfl
theorem V.slice {t e : TypeId} {x : Operand} {lo hi : Option Operand} {zl zh : Option Int} {A : Option Addr} {l l' C sz : Nat} {L H : Int} (ho : o.op = .slice t x lo hi none) (hx : ev fs x = some (.slice A l C)) (hlo : evB fs lo = some zl) (hhi : evB fs hi = some zh)
    (ht : ∀ w, (underlying t).run P w = .ok (.slice e) w) (hsz : ∀ w, (Go.sizeOf e).run P w = .ok sz w) (hL : zl.getD 0 = L) (hH : zh.getD l = H) (hb : 0 ≤ L ∧ L ≤ H ∧ H ≤ l) (hC : l ≤ C) (hl : l' = H.toNat - L.toNat) :
    ∀ a w, FrOk n fs a → Sat w0 M σ w → RunV P o a w (.slice (segA A C L.toNat sz) l' (C - L.toNat)) := fun a w hf _ => by
  have e1 := hf.ev_ok hx
  have e2 : lo.map a.eval = zl.map (Value.int .i64) := by
    cases lo with
    | none => simp only [evB, Option.some.injEq] at hlo; rw [← hlo]; rfl
    | some y =>
      simp only [evB] at hlo
      split at hlo <;> try (cases hlo; done)
      rename_i z hz
      simp only [Option.some.injEq] at hlo; rw [← hlo]; simp [hf.ev_ok hz]
  have e3 : hi.map a.eval = zh.map (Value.int .i64) := by
    cases hi with
    | none => simp only [evB, Option.some.injEq] at hhi; rw [← hhi]; rfl
    | some y =>
      simp only [evB] at hhi
      split at hhi <;> try (cases hhi; done)
      rename_i z hz
      simp only [Option.some.injEq] at hhi; rw [← hhi]; simp [hf.ev_ok hz]
  refine exec_value (s := Instr.sliceAt t (a.eval x) (lo.map a.eval) (hi.map a.eval) (Option.map a.eval none)) (by unfold execOp; rw [ho]) ?_
  rw [e1, e2, e3]
  unfold Instr.sliceAt Instr.slice
  have hb' : 0 ≤ zl.getD 0 ∧ zl.getD 0 ≤ zh.getD l ∧ zh.getD l ≤ l := by rw [hL, hH]; exact hb
  simp only [Sem.run_bind, ht, Result.andThen_ok, Option.map_none, run_sliceBounds hb' hC, hsz, hL, hH, Sem.run_pure, hl, segA]
theorem Sat.boxAt (hs : Sat w0 M σ w) (q : Nat) {g : Nat} {e : TypeId} {vs : List Value} (hq : σ[q]? = some (hbox g e vs)) : ElemAt w (old w none_) (some ⟨g, 0, none⟩) 0 vs := by
  obtain ⟨F, ⟨hg, hF⟩, hlt⟩ := hs.nth hq
  refine ⟨_, rfl, ⟨hlt g ((hF g).2 rfl), fun e => e⟩, fun j v hv => ?_⟩
  rw [Addr.add_lit, Nat.zero_add, Nat.zero_add, cell_of_row w g _ vs.toArray e (0, 0) hg]
  simpa using hv
theorem Ag.elem {wR : World} {F : Nat → Prop} (ag : Ag w0 M σ wR F) {A : Option Addr} {k : Nat} {cs : List Value} (h : ElemAt wR F A k cs) (hs : Sat w0 M σ w) : ElemAt w (old w none_) A k cs :=
  h.mono fun b hb => ⟨⟨(ag w hs b hb).1, fun e => e⟩, (ag w hs b hb).2⟩
theorem V.loadAt0 {wR : World} {F : Nat → Prop} (ag : Ag w0 M σ wR F) {g off m : Nat} {cs : List Value} (he : ElemAt wR F (some ⟨g, 0, none⟩) 0 cs) {t : TypeId} {x : Operand} {agg : Bool} (ho : o.op = .load t x) (hx : ev fs x = some (.pointer (some ⟨g, off, none⟩)))
    (hag : ∀ w, (isAgg t).run P w = .ok agg w) (hsz : ∀ w, (Go.sizeOf t).run P w = .ok m w) (hl : ((cs.drop off).take m).length = m) (hv : mkv agg ((cs.drop off).take m) = some v) :
    ∀ a w, FrOk n fs a → Sat w0 M σ w → RunV P o a w v := fun a w hf hs => by
  refine V.loadEl ag he (k' := off) ho ?_ (by rw [Nat.zero_add]) hag hsz hl hv a w hf hs
  rw [hx]
  show some (Value.pointer (some ⟨g, off, none⟩)) = some (Value.pointer (some (Addr.add ⟨g, 0, none⟩ off)))
  rw [Addr.add_lit, Nat.zero_add]
end
end Go.Proofs.YtdnilnmdbgcmoaaGreatDoor
