/- Chapter texts of ours, as far as the claim needs them. -/
import Derived.Test.YtihjaehkdgdenaaGreatDoorPure
import Derived.Laws.Externs
import Derived.Lib.Bytealg
namespace Go.Proofs.YtihjaehkdgdenaaGreatDoor
open Go Go.RowKit
set_option linter.unusedVariables false
set_option linter.unusedSectionVars false
set_option linter.unusedSimpArgs false
def cvt (k : IntKind) (n : Int) : Int := k.wrap n
def shrI (k : IntKind) (x y : Int) : Int := x.fdiv (2 ^ (min y.toNat k.bits))
def andI (k : IntKind) (x y : Int) : Int := k.wrap (BitVec.ofInt k.bits x &&& BitVec.ofInt k.bits y).toNat
def orI (k : IntKind) (x y : Int) : Int := k.wrap (BitVec.ofInt k.bits x ||| BitVec.ofInt k.bits y).toNat
def andNotI (k : IntKind) (x y : Int) : Int := k.wrap (BitVec.ofInt k.bits x &&& ~~~(BitVec.ofInt k.bits y)).toNat
def seg {α : Type} (xs : List α) (lo hi : Int) : List α := (xs.take hi.toNat).drop lo.toNat
theorem seg_length {α : Type} {xs : List α} {lo hi : Int} (h : hi.toNat ≤ xs.length) : (seg xs lo hi).length = hi.toNat - lo.toNat := by
  simp only [seg, List.length_drop, List.length_take]; omega
def segA (A : Option Addr) (C k sz : Nat) : Option Addr := if C = k then A else A.map (·.add (k * sz))
def byteAt (s : Str) (c : Int) : Int := firstIdx (ba s) c.toNat.toUInt8
def cmpStr (s u : Str) : Int := Lib.compareBytes s u
section
variable {P : Program} {n : Nat} {fs : Fr} {a : Act} {o : Oper} {v : Value} {ops : Array Oper} {rest : List Oper} {Q : Exit → Act → World → Prop} {w w0 : World} {M : Nat → Prop} {σ : List HProp}
theorem V.conv {s t : TypeId} {x : Operand} {k k' : IntKind} {z : Int} {ty : TypeDesc} (ho : o.op = .convert s t x) (hx : ev fs x = some (.int k z)) (hs : ∀ w, (underlying s).run P w = .ok ty w) (ht : ∀ w, (underlying t).run P w = .ok (.int k') w) :
    ∀ a w, FrOk n fs a → Sat w0 M σ w → RunV P o a w (.int k' (cvt k' z)) := fun a w hf _ => by
  have e1 := hf.ev_ok hx
  refine exec_value (s := convert s t (a.eval x)) (by unfold execOp; rw [ho]) ?_
  rw [e1]
  unfold convert
  simp only [Sem.run_bind, hs, ht, Result.andThen_ok, Conv.intToInt, cvt]
  rfl
theorem V.shr {k k' : IntKind} {t ty : TypeId} {x y : Operand} {m m' : Int} (ho : o.op = .binOp .shr t x y ty) (hx : ev fs x = some (.int k m)) (hy : ev fs y = some (.int k' m')) (h0 : 0 ≤ m') :
    ∀ a w, FrOk n fs a → Sat w0 M σ w → RunV P o a w (.int k (shrI k m m')) := fun a w hf _ => by
  have e1 := hf.ev_ok hx
  have e2 := hf.ev_ok hy
  refine exec_value (s := (do eqGuard .shr t x y (a.eval x) (a.eval y); binOp .shr t (a.eval x) (a.eval y))) (by unfold execOp; rw [ho]) ?_
  rw [e1, e2]
  have hn : ¬ m' < 0 := by omega
  simp only [Sem.run_bind, eqGuard, binOp, Op.shift, hn, if_false, shrI]
  rfl
theorem V.bits {op : BinOp} {k : IntKind} {t ty : TypeId} {x y : Operand} {m m' r : Int} (ho : o.op = .binOp op t x y ty) (hx : ev fs x = some (.int k m)) (hy : ev fs y = some (.int k m'))
    (hr : (match op with | .and => some (andI k m m') | .or => some (orI k m m') | .andNot => some (andNotI k m m') | _ => none) = some r) :
    ∀ a w, FrOk n fs a → Sat w0 M σ w → RunV P o a w (.int k r) := fun a w hf _ => by
  have e1 := hf.ev_ok hx
  have e2 := hf.ev_ok hy
  refine exec_value (s := (do eqGuard op t x y (a.eval x) (a.eval y); binOp op t (a.eval x) (a.eval y))) (by unfold execOp; rw [ho]) ?_
  rw [e1, e2]
  cases op <;> simp only [reduceCtorEq, Option.some.injEq] at hr <;> subst hr <;>
    simp only [Sem.run_bind, eqGuard, binOp, Op.intBits, ne_eq, not_true, if_false, andI, orI, andNotI] <;> rfl
theorem V.min2 {ts : Array TypeId} {x y : Operand} {m n' : Int} (ho : o.op = .call ⟨.builtin .min, #[x, y], ts⟩) (hx : ev fs x = some (.int .i64 m)) (hy : ev fs y = some (.int .i64 n')) :
    ∀ a w, FrOk n fs a → Sat w0 M σ w → RunV P o a w (.int .i64 (min m n')) := fun a w hf _ => by
  have e1 := hf.ev_ok hx
  have e2 := hf.ev_ok hy
  have : (if n' < m then n' else m) = min m n' := by omega
  unfold RunV execOp
  simp only [ho, resolve, invoke, builtin, Sem.run_bind, Sem.run_pure, Result.andThen_ok, List.map_toArray, List.map_cons, List.map_nil, e1, e2, Builtin.min_]
  simp [Builtin.min2, this]
theorem View.sub {α : Type} [Rep α] {F : Nat → Prop} {A : Option Addr} {C : Nat} {xs : List α} (h : View w F A C xs) {lo hi : Int} (hb : 0 ≤ lo ∧ lo ≤ hi ∧ hi ≤ xs.length) : View w F (segA A C lo.toNat (Rep.sz α)) (C - lo.toNat) (seg xs lo hi) := by
  have hc := h.cap
  have hm := h.most
  refine ⟨by rw [seg_length (by omega)]; omega, by omega, fun i x hx => ?_⟩
  have hx' : xs[lo.toNat + i]? = some x := by
    simp only [seg, List.getElem?_drop, List.getElem?_take] at hx
    split at hx
    · exact hx
    · cases hx
  obtain ⟨cs, ⟨ad, rfl, hbk, hcs⟩, hr⟩ := h.at_ _ _ hx'
  have hlt := lt_of_get hx'
  refine ⟨cs, ⟨ad.add (lo.toNat * Rep.sz α), ?_, by rw [block_add]; exact hbk, fun j v hv => ?_⟩, hr⟩
  · unfold segA
    rw [if_neg (by omega)]; rfl
  · rw [add_add', ← hcs j v hv, Nat.add_mul, Nat.add_assoc]
def evB (fs : Fr) : Option Operand → Option (Option Int)
  | none => some none
  | some x => match ev fs x with
    | some (.int .i64 z) => some (some z)
    | _ => none
theorem run_sliceBound {z : Int} {y : Nat} {code : BoundsCode} (h : 0 ≤ z ∧ z ≤ y) : (Instr.sliceBound (.int .i64 z) y code).run P w = .ok z.toNat w := by
  unfold Instr.sliceBound
  simp only [asIntOf, Sem.run_bind, Sem.run_pure, Result.andThen_ok, h, and_self, if_true]
theorem run_sliceBounds {isSlice : Bool} {len cap : Nat} {lo hi : Option Int} (hb : 0 ≤ lo.getD 0 ∧ lo.getD 0 ≤ hi.getD len ∧ hi.getD len ≤ len) (hc : len ≤ cap) :
    (Instr.sliceBounds isSlice len cap (lo.map (Value.int .i64)) (hi.map (Value.int .i64)) none).run P w = .ok ((lo.getD 0).toNat, (hi.getD len).toNat, cap) w := by
  unfold Instr.sliceBounds
  cases lo <;> cases hi <;> simp only [Option.map_none, Option.map_some, Option.getD_none, Option.getD_some] at hb ⊢
  · simp only [Sem.run_bind, Sem.run_pure, Result.andThen_ok]; rfl
  · rename_i zh
    simp only [Sem.run_bind, Sem.run_pure, Result.andThen_ok]
    rw [run_sliceBound (by omega)]; rfl
  · rename_i zl
    simp only [Sem.run_bind, Sem.run_pure, Result.andThen_ok]
    rw [run_sliceBound (by omega)]; rfl
  · rename_i zl zh
    simp only [Sem.run_bind, Sem.run_pure, Result.andThen_ok]
    rw [run_sliceBound (by omega)]
    simp only [Result.andThen_ok]
    rw [run_sliceBound (by omega)]; rfl
theorem V.slice {t e : TypeId} {x : Operand} {lo hi : Option Operand} {zl zh : Option Int} {A : Option Addr} {l l' C sz : Nat} {L H : Int} (ho : o.op = .slice t x lo hi none) (hx : ev fs x = some (.slice A l C)) (hlo : evB fs lo = some zl) (hhi : evB fs hi = some zh)
    (ht : ∀ w, (underlying t).run P w = .ok (.slice e) w) (hsz : ∀ w, (Go.sizeOf e).run P w = .ok sz w) (hL : zl.getD 0 = L) (hH : zh.getD l = H) (hb : 0 ≤ L ∧ L ≤ H ∧ H ≤ l) (hC : l ≤ C) (hl : l' = H.toNat - L.toNat) :
    ∀ a w, FrOk n fs a → Sat w0 M σ w → RunV P o a w (.slice (segA A C L.toNat sz) l' (C - L.toNat)) := fun a w hf _ => by
  have e1 := hf.ev_ok hx
  have e2 : lo.map a.eval = zl.map (Value.int .i64) := by
    cases lo with
    | none => simp only [evB, Option.some.injEq] at hlo; rw [← hlo]; rfl
    | some y =>
      simp only [evB] at hlo
      split at hlo <;> try (cases hlo; done)
      rename_i z hz
      simp only [Option.some.injEq] at hlo; rw [← hlo]; simp [hf.ev_ok hz]
  have e3 : hi.map a.eval = zh.map (Value.int .i64) := by
    cases hi with
    | none => simp only [evB, Option.some.injEq] at hhi; rw [← hhi]; rfl
    | some y =>
      simp only [evB] at hhi
      split at hhi <;> try (cases hhi; done)
      rename_i z hz
      simp only [Option.some.injEq] at hhi; rw [← hhi]; simp [hf.ev_ok hz]
  refine exec_value (s := Instr.sliceAt t (a.eval x) (lo.map a.eval) (hi.map a.eval) (Option.map a.eval none)) (by unfold execOp; rw [ho]) ?_
  rw [e1, e2, e3]
  unfold Instr.sliceAt Instr.slice
  have hb' : 0 ≤ zl.getD 0 ∧ zl.getD 0 ≤ zh.getD l ∧ zh.getD l ≤ l := by rw [hL, hH]; exact hb
  simp only [Sem.run_bind, ht, Result.andThen_ok, Option.map_none, run_sliceBounds hb' hC, hsz, hL, hH, Sem.run_pure, hl, segA]
theorem Sat.boxAt (hs : Sat w0 M σ w) (q : Nat) {g : Nat} {e : TypeId} {vs : List Value} (hq : σ[q]? = some (hbox g e vs)) : ElemAt w (old w none_) (some ⟨g, 0, none⟩) 0 vs := by
  obtain ⟨F, ⟨hg, hF⟩, hlt⟩ := hs.nth hq
  refine ⟨_, rfl, ⟨hlt g ((hF g).2 rfl), fun e => e⟩, fun j v hv => ?_⟩
  rw [Addr.add_lit, Nat.zero_add, Nat.zero_add, cell_of_row w g _ vs.toArray e (0, 0) hg]
  simpa using hv
theorem Ag.elem {wR : World} {F : Nat → Prop} (ag : Ag w0 M σ wR F) {A : Option Addr} {k : Nat} {cs : List Value} (h : ElemAt wR F A k cs) (hs : Sat w0 M σ w) : ElemAt w (old w none_) A k cs :=
  h.mono fun b hb => ⟨⟨(ag w hs b hb).1, fun e => e⟩, (ag w hs b hb).2⟩
theorem V.loadAt0 {wR : World} {F : Nat → Prop} (ag : Ag w0 M σ wR F) {g off m : Nat} {cs : List Value} (he : ElemAt wR F (some ⟨g, 0, none⟩) 0 cs) {t : TypeId} {x : Operand} {agg : Bool} (ho : o.op = .load t x) (hx : ev fs x = some (.pointer (some ⟨g, off, none⟩)))
    (hag : ∀ w, (isAgg t).run P w = .ok agg w) (hsz : ∀ w, (Go.sizeOf t).run P w = .ok m w) (hl : ((cs.drop off).take m).length = m) (hv : mkv agg ((cs.drop off).take m) = some v) :
    ∀ a w, FrOk n fs a → Sat w0 M σ w → RunV P o a w v := fun a w hf hs => by
  refine V.loadEl ag he (k' := off) ho ?_ (by rw [Nat.zero_add]) hag hsz hl hv a w hf hs
  rw [hx]
  show some (Value.pointer (some ⟨g, off, none⟩)) = some (Value.pointer (some (Addr.add ⟨g, 0, none⟩ off)))
  rw [Addr.add_lit, Nat.zero_add]
theorem V.extern {x : Operand} {xs : Array Operand} {ts : Array TypeId} {f : FuncId} {fn : Func} {vs : List Value} {e : Array Value → Sem Value} (hf' : P.funcs[f]? = some fn) (hname : (fn.name == "runtime.NumGoroutine") = false) (hb : fn.body.isNone = true) (hn : Extern.findNext fn = none) (he : Extern.find fn = some e)
    (ho : o.op = .call ⟨.value x, xs, ts⟩) (hx : ev fs x = some (.func (.func f) #[] #[])) (hxs : evs fs xs.toList = some vs) (hr : ∀ w, (e vs.toArray).run P w = .ok v w) :
    ∀ a w, FrOk n fs a → Sat w0 M σ w → RunV P o a w v := fun a w hf _ => by
  have e1 := hf.ev_ok hx
  have e2 : xs.map a.eval = vs.toArray := Array.ext' (by rw [Array.toList_map]; exact evs_ok hf hxs)
  unfold RunV execOp
  simp only [ho, resolve, e1, e2, Deferred.ofValue, Sem.run_bind, Sem.run_pure, Result.andThen_ok, invoke]
  have h1 : (#[] : Array Value) ++ vs.toArray ++ #[] = vs.toArray := by simp
  rw [h1, run_callFunc_extern hf' hname hb hn he, hr]
  rfl
theorem run_byteAt (s : Str) (c : Int) (w : World) : (Extern.BytealgIndexByte.indexByte [Value.string (ba s), .int .u8 c].toArray).run P w = .ok (.int .i64 (byteAt s c)) w := run_indexByte_string (ba s) c w
theorem run_cmpStr (s u : Str) (w : World) : (Extern.BytealgCompare.compare [Value.string (ba s), .string (ba u)].toArray).run P w = .ok (.int .i64 (cmpStr s u)) w := by
  have := Lib.run_compareString (P := P) (ba s) (ba u) w
  rw [ba_toList, ba_toList] at this
  exact this
end
theorem lt3 (x y : UInt8) : x < y ∨ x = y ∨ y < x := by
  rw [UInt8.lt_iff_toNat_lt, UInt8.lt_iff_toNat_lt, ← UInt8.toNat_inj]; omega
theorem cmpStr_spec : ∀ (s u : Str), (cmpStr s u = 0 ∧ s = u) ∨ (cmpStr s u = -1 ∧ strLt s u = true ∧ s ≠ u) ∨ (cmpStr s u = 1 ∧ strLt u s = true ∧ strLt s u = false ∧ s ≠ u) := by
  intro s
  induction s with
  | nil =>
    intro u
    cases u with
    | nil => exact .inl ⟨rfl, rfl⟩
    | cons b u => exact .inr (.inl ⟨rfl, rfl, by simp⟩)
  | cons x s ih =>
    intro u
    cases u with
    | nil => exact .inr (.inr ⟨rfl, rfl, rfl, by simp⟩)
    | cons y u =>
      rcases ih u with ⟨h1, h2⟩ | ⟨h1, h2, h3⟩ | ⟨h1, h2, h3, h4⟩
      all_goals
        unfold cmpStr at h1 ⊢
        unfold Lib.compareBytes
        unfold strLt at *
        rcases lt3 x y with hxy | hxy | hxy
        · have h5 : ¬ y < x := by rw [UInt8.lt_iff_toNat_lt] at *; omega
          have h6 : x ≠ y := by intro e; subst e; rw [UInt8.lt_iff_toNat_lt] at hxy; omega
          simp [hxy, Op.bytesLess, h6]
        · subst hxy
          have h5 : ¬ x < x := by rw [UInt8.lt_iff_toNat_lt]; omega
          simp_all [Op.bytesLess]
        · have h5 : ¬ x < y := by rw [UInt8.lt_iff_toNat_lt] at *; omega
          have h6 : x ≠ y := by intro e; subst e; rw [UInt8.lt_iff_toNat_lt] at hxy; omega
          simp [hxy, h5, Op.bytesLess, h6]
end Go.Proofs.YtihjaehkdgdenaaGreatDoor
