/- Chapter texts of ours, as far as the claim needs them. -/
import Derived.Test.YtbegofbmbcghdaaGreatDoorPure
import Derived.Laws.Externs
import Derived.Lib.Bytealg
namespace Go.Proofs.YtbegofbmbcghdaaGreatDoor
open Go Go.RowKit
set_option linter.unusedVariables false
set_option linter.unusedSectionVars false
set_option linter.unusedSimpArgs false
def cvt (k : IntKind) (n : Int) : Int := k.wrap n
def ja (k : IntKind) (x y : Int) : Int := x.fdiv (2 ^ (min y.toNat k.bits))
def SI (k : IntKind) (x y : Int) : Int := k.wrap (BitVec.ofInt k.bits x &&& BitVec.ofInt k.bits y).toNat
def orI (k : IntKind) (x y : Int) : Int := k.wrap (BitVec.ofInt k.bits x ||| BitVec.ofInt k.bits y).toNat
def Og (k : IntKind) (x y : Int) : Int := k.wrap (BitVec.ofInt k.bits x &&& ~~~(BitVec.ofInt k.bits y)).toNat
def seg {α : Type} (xs : List α) (lo hi : Int) : List α := (xs.take hi.toNat).drop lo.toNat
theorem seg_length {α : Type} {xs : List α} {lo hi : Int} (h : hi.toNat ≤ xs.length) : (seg xs lo hi).length = hi.toNat - lo.toNat := by
  simp only [seg, List.length_drop, List.length_take]; omega
def iY (A : Option Addr) (C k sz : Nat) : Option Addr := if C = k then A else A.map (·.add (k * sz))
def byteAt (s : Str) (c : Int) : Int := firstIdx (ba s) c.toNat.toUInt8
def iw (s u : Str) : Int := Lib.compareBytes s u
section
variable {P : Program} {n : Nat} {fs : Fr} {a : Act} {o : Oper} {v : Value} {ops : Array Oper} {rest : List Oper} {Q : Exit → Act → World → Prop} {w w0 : World} {M : Nat → Prop} {σ : List gJ}
theorem V.conv {s t : TypeId} {x : Operand} {k k' : IntKind} {z : Int} {ty : TypeDesc} (ho : o.op = .convert s t x) (hx : ev fs x = some (.int k z)) (hs : ∀ w, (underlying s).run P w = .ok ty w) (ht : ∀ w, (underlying t).run P w = .ok (.int k') w) :
    ∀ a w, fB n fs a → Sat w0 M σ w → kC P o a w (.int k' (cvt k' z)) := fun a w hf _ => by
  have e1 := hf.gX hx
  refine jg (s := convert s t (a.eval x)) (by unfold execOp; rw [ho]) ?_
  rw [e1]
  unfold convert
  simp only [Sem.run_bind, hs, ht, Result.andThen_ok, Conv.intToInt, cvt]
  rfl
theorem V.shr {k k' : IntKind} {t ty : TypeId} {x y : Operand} {m m' : Int} (ho : o.op = .binOp .shr t x y ty) (hx : ev fs x = some (.int k m)) (hy : ev fs y = some (.int k' m')) (h0 : 0 ≤ m') :
    ∀ a w, fB n fs a → Sat w0 M σ w → kC P o a w (.int k (ja k m m')) := fun a w hf _ => by
  have e1 := hf.gX hx
  have e2 := hf.gX hy
  refine jg (s := (do eqGuard .shr t x y (a.eval x) (a.eval y); binOp .shr t (a.eval x) (a.eval y))) (by unfold execOp; rw [ho]) ?_
  rw [e1, e2]
  have hn : ¬ m' < 0 := by omega
  simp only [Sem.run_bind, eqGuard, binOp, Op.shift, hn, if_false, ja]
  rfl
theorem V.bits {op : BinOp} {k : IntKind} {t ty : TypeId} {x y : Operand} {m m' r : Int} (ho : o.op = .binOp op t x y ty) (hx : ev fs x = some (.int k m)) (hy : ev fs y = some (.int k m'))
    (hr : (match op with | .and => some (SI k m m') | .or => some (orI k m m') | .andNot => some (Og k m m') | _ => none) = some r) :
    ∀ a w, fB n fs a → Sat w0 M σ w → kC P o a w (.int k r) := fun a w hf _ => by
  have e1 := hf.gX hx
  have e2 := hf.gX hy
  refine jg (s := (do eqGuard op t x y (a.eval x) (a.eval y); binOp op t (a.eval x) (a.eval y))) (by unfold execOp; rw [ho]) ?_
  rw [e1, e2]
  cases op <;> simp only [reduceCtorEq, Option.some.injEq] at hr <;> subst hr <;>
    simp only [Sem.run_bind, eqGuard, binOp, Op.intBits, ne_eq, not_true, if_false, SI, orI, Og] <;> rfl
theorem View.sub {α : Type} [Rep α] {F : Nat → Prop} {A : Option Addr} {C : Nat} {xs : List α} (h : View w F A C xs) {lo hi : Int} (hb : 0 ≤ lo ∧ lo ≤ hi ∧ hi ≤ xs.length) : View w F (iY A C lo.toNat (Rep.sz α)) (C - lo.toNat) (seg xs lo hi) := by
  have hc := h.cap
  have hm := h.most
  refine ⟨by rw [seg_length (by omega)]; omega, by omega, fun i x hx => ?_⟩
  have hx' : xs[lo.toNat + i]? = some x := by
    simp only [seg, List.getElem?_drop, List.getElem?_take] at hx
    split at hx
    · exact hx
    · cases hx
  obtain ⟨cs, ⟨ad, rfl, hbk, hcs⟩, hr⟩ := h.at_ _ _ hx'
  have hlt := TL hx'
  refine ⟨cs, ⟨ad.add (lo.toNat * Rep.sz α), ?_, by rw [block_add]; exact hbk, fun j v hv => ?_⟩, hr⟩
  · unfold iY
    rw [if_neg (by omega)]; rfl
  · rw [add_add', ← hcs j v hv, Nat.add_mul, Nat.add_assoc]
def evB (fs : Fr) : Option Operand → Option (Option Int)
  | none => some none
  | some x => match ev fs x with
    | some (.int .i64 z) => some (some z)
    | _ => none
theorem run_sliceBound {z : Int} {y : Nat} {code : BoundsCode} (h : 0 ≤ z ∧ z ≤ y) : (Instr.sliceBound (.int .i64 z) y code).run P w = .ok z.toNat w := by
  unfold Instr.sliceBound
  simp only [asIntOf, Sem.run_bind, Sem.run_pure, Result.andThen_ok, h, and_self, if_true]
theorem GH {isSlice : Bool} {len cap : Nat} {lo hi : Option Int} (hb : 0 ≤ lo.getD 0 ∧ lo.getD 0 ≤ hi.getD len ∧ hi.getD len ≤ len) (hc : len ≤ cap) :
    (Instr.sliceBounds isSlice len cap (lo.map (Value.int .i64)) (hi.map (Value.int .i64)) none).run P w = .ok ((lo.getD 0).toNat, (hi.getD len).toNat, cap) w := by
  unfold Instr.sliceBounds
  cases lo <;> cases hi <;> simp only [Option.map_none, Option.map_some, Option.getD_none, Option.getD_some] at hb ⊢
  · simp only [Sem.run_bind, Sem.run_pure, Result.andThen_ok]; rfl
  · rename_i zh
    simp only [Sem.run_bind, Sem.run_pure, Result.andThen_ok]
    rw [run_sliceBound (by omega)]; rfl
  · rename_i zl
    simp only [Sem.run_bind, Sem.run_pure, Result.andThen_ok]
    rw [run_sliceBound (by omega)]; rfl
  · rename_i zl zh
    simp only [Sem.run_bind, Sem.run_pure, Result.andThen_ok]
    rw [run_sliceBound (by omega)]
    simp only [Result.andThen_ok]
    rw [run_sliceBound (by omega)]; rfl
theorem V.slice {t e : TypeId} {x : Operand} {lo hi : Option Operand} {zl zh : Option Int} {A : Option Addr} {l l' C sz : Nat} {L H : Int} (ho : o.op = .slice t x lo hi none) (hx : ev fs x = some (.slice A l C)) (hlo : evB fs lo = some zl) (hhi : evB fs hi = some zh)
    (ht : ∀ w, (underlying t).run P w = .ok (.slice e) w) (hsz : ∀ w, (Go.sizeOf e).run P w = .ok sz w) (hL : zl.getD 0 = L) (hH : zh.getD l = H) (hb : 0 ≤ L ∧ L ≤ H ∧ H ≤ l) (hC : l ≤ C) (hl : l' = H.toNat - L.toNat) :
    ∀ a w, fB n fs a → Sat w0 M σ w → kC P o a w (.slice (iY A C L.toNat sz) l' (C - L.toNat)) := fun a w hf _ => by
  have e1 := hf.gX hx
  have e2 : lo.map a.eval = zl.map (Value.int .i64) := by
    cases lo with
    | none => simp only [evB, Option.some.injEq] at hlo; rw [← hlo]; rfl
    | some y =>
      simp only [evB] at hlo
      split at hlo <;> try (cases hlo; done)
      rename_i z hz
      simp only [Option.some.injEq] at hlo; rw [← hlo]; simp [hf.gX hz]
  have e3 : hi.map a.eval = zh.map (Value.int .i64) := by
    cases hi with
    | none => simp only [evB, Option.some.injEq] at hhi; rw [← hhi]; rfl
    | some y =>
      simp only [evB] at hhi
      split at hhi <;> try (cases hhi; done)
      rename_i z hz
      simp only [Option.some.injEq] at hhi; rw [← hhi]; simp [hf.gX hz]
  refine jg (s := Instr.sliceAt t (a.eval x) (lo.map a.eval) (hi.map a.eval) (Option.map a.eval none)) (by unfold execOp; rw [ho]) ?_
  rw [e1, e2, e3]
  unfold Instr.sliceAt Instr.slice
  have hb' : 0 ≤ zl.getD 0 ∧ zl.getD 0 ≤ zh.getD l ∧ zh.getD l ≤ l := by rw [hL, hH]; exact hb
  simp only [Sem.run_bind, ht, Result.andThen_ok, Option.map_none, GH hb' hC, hsz, hL, hH, Sem.run_pure, hl, iY]
theorem Sat.ED (hs : Sat w0 M σ w) (q : Nat) {g : Nat} {e : TypeId} {vs : List Value} (hq : σ[q]? = some (hbox g e vs)) : iW w (old w none_) (some ⟨g, 0, none⟩) 0 vs := by
  obtain ⟨F, ⟨hg, hF⟩, hlt⟩ := hs.nth hq
  refine ⟨_, rfl, ⟨hlt g ((hF g).2 rfl), fun e => e⟩, fun j v hv => ?_⟩
  rw [Addr.add_lit, Nat.zero_add, Nat.zero_add, cell_of_row w g _ vs.toArray e (0, 0) hg]
  simpa using hv
theorem Ag.elem {wR : World} {F : Nat → Prop} (ag : Ag w0 M σ wR F) {A : Option Addr} {k : Nat} {cs : List Value} (h : iW wR F A k cs) (hs : Sat w0 M σ w) : iW w (old w none_) A k cs :=
  h.mono fun b hb => ⟨⟨(ag w hs b hb).1, fun e => e⟩, (ag w hs b hb).2⟩
theorem V.qO {wR : World} {F : Nat → Prop} (ag : Ag w0 M σ wR F) {g off m : Nat} {cs : List Value} (he : iW wR F (some ⟨g, 0, none⟩) 0 cs) {t : TypeId} {x : Operand} {agg : Bool} (ho : o.op = .load t x) (hx : ev fs x = some (.pointer (some ⟨g, off, none⟩)))
    (hag : ∀ w, (isAgg t).run P w = .ok agg w) (hsz : ∀ w, (Go.sizeOf t).run P w = .ok m w) (hl : ((cs.drop off).take m).length = m) (hv : mkv agg ((cs.drop off).take m) = some v) :
    ∀ a w, fB n fs a → Sat w0 M σ w → kC P o a w v := fun a w hf hs => by
  refine V.fP ag he (k' := off) ho ?_ (by rw [Nat.zero_add]) hag hsz hl hv a w hf hs
  rw [hx]
  show some (Value.pointer (some ⟨g, off, none⟩)) = some (Value.pointer (some (Addr.add ⟨g, 0, none⟩ off)))
  rw [Addr.add_lit, Nat.zero_add]
theorem V.extern {x : Operand} {xs : Array Operand} {ts : Array TypeId} {f : FuncId} {fn : Func} {vs : List Value} {e : Array Value → Sem Value} (hf' : P.funcs[f]? = some fn) (hname : (fn.name == "runtime.NumGoroutine") = false) (hb : fn.body.isNone = true) (hn : Extern.findNext fn = none) (he : Extern.find fn = some e)
    (ho : o.op = .call ⟨.value x, xs, ts⟩) (hx : ev fs x = some (.func (.func f) #[] #[])) (hxs : evs fs xs.toList = some vs) (hr : ∀ w, (e vs.toArray).run P w = .ok v w) :
    ∀ a w, fB n fs a → Sat w0 M σ w → kC P o a w v := fun a w hf _ => by
  have e1 := hf.gX hx
  have e2 : xs.map a.eval = vs.toArray := Array.ext' (by rw [Array.toList_map]; exact NE hf hxs)
  unfold kC execOp
  simp only [ho, resolve, e1, e2, Deferred.ofValue, Sem.run_bind, Sem.run_pure, Result.andThen_ok, invoke]
  have h1 : (#[] : Array Value) ++ vs.toArray ++ #[] = vs.toArray := by simp
  rw [h1, run_callFunc_extern hf' hname hb hn he, hr]
  rfl
theorem NC (s : Str) (c : Int) (w : World) : (Extern.BytealgIndexByte.indexByte [Value.string (ba s), .int .u8 c].toArray).run P w = .ok (.int .i64 (byteAt s c)) w := run_indexByte_string (ba s) c w
theorem N8 (s u : Str) (w : World) : (Extern.BytealgCompare.compare [Value.string (ba s), .string (ba u)].toArray).run P w = .ok (.int .i64 (iw s u)) w := by
  have := Lib.run_compareString (P := P) (ba s) (ba u) w
  rw [xC, xC] at this
  exact this
end
theorem lt3 (x y : UInt8) : x < y ∨ x = y ∨ y < x := by
  rw [UInt8.lt_iff_toNat_lt, UInt8.lt_iff_toNat_lt, ← UInt8.toNat_inj]; omega
theorem vW : ∀ (s u : Str), (iw s u = 0 ∧ s = u) ∨ (iw s u = -1 ∧ gI s u = true ∧ s ≠ u) ∨ (iw s u = 1 ∧ gI u s = true ∧ gI s u = false ∧ s ≠ u) := by
  intro s
  induction s with
  | nil =>
    intro u
    cases u with
    | nil => exact .inl ⟨rfl, rfl⟩
    | cons b u => exact .inr (.inl ⟨rfl, rfl, by simp⟩)
  | cons x s ih =>
    intro u
    cases u with
    | nil => exact .inr (.inr ⟨rfl, rfl, rfl, by simp⟩)
    | cons y u =>
      rcases ih u with ⟨h1, h2⟩ | ⟨h1, h2, h3⟩ | ⟨h1, h2, h3, h4⟩
      all_goals
        unfold iw at h1 ⊢
        unfold Lib.compareBytes
        unfold gI at *
        rcases lt3 x y with hxy | hxy | hxy
        · have h5 : ¬ y < x := by rw [UInt8.lt_iff_toNat_lt] at *; omega
          have h6 : x ≠ y := by intro e; subst e; rw [UInt8.lt_iff_toNat_lt] at hxy; omega
          simp [hxy, Op.bytesLess, h6]
        · subst hxy
          have h5 : ¬ x < x := by rw [UInt8.lt_iff_toNat_lt]; omega
          simp_all [Op.bytesLess]
        · have h5 : ¬ x < y := by rw [UInt8.lt_iff_toNat_lt] at *; omega
          have h6 : x ≠ y := by intro e; subst e; rw [UInt8.lt_iff_toNat_lt] at hxy; omega
          simp [hxy, h5, Op.bytesLess, h6]
end Go.Proofs.YtbegofbmbcghdaaGreatDoor
