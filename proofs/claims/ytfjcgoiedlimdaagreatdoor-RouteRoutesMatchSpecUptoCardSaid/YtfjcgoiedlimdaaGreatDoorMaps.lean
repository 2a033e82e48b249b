/- Chapter texts of ours, as far as the claim needs them. -/
import Derived.Test.YtfjcgoiedlimdaaGreatDoorPure
import Derived.Laws.Externs
import Derived.Lib.Bytealg
namespace Go.Proofs.YtfjcgoiedlimdaaGreatDoor
open Go Go.RowKit
set_option linter.unusedVariables false
set_option linter.unusedSectionVars false
set_option linter.unusedSimpArgs false
def cvt (k : IntKind) (n : Int) : Int := k.wrap n
def Qx (k : IntKind) (x y : Int) : Int := k.wrap (BitVec.ofInt k.bits x &&& BitVec.ofInt k.bits y).toNat
def orI (k : IntKind) (x y : Int) : Int := k.wrap (BitVec.ofInt k.bits x ||| BitVec.ofInt k.bits y).toNat
def LC (k : IntKind) (x y : Int) : Int := k.wrap (BitVec.ofInt k.bits x &&& ~~~(BitVec.ofInt k.bits y)).toNat
def seg {α : Type} (xs : List α) (lo hi : Int) : List α := (xs.take hi.toNat).drop lo.toNat
theorem seg_length {α : Type} {xs : List α} {lo hi : Int} (h : hi.toNat ≤ xs.length) : (seg xs lo hi).length = hi.toNat - lo.toNat := by
  simp only [seg, List.length_drop, List.length_take]; omega
def xg (A : Option Addr) (C k sz : Nat) : Option Addr := if C = k then A else A.map (·.add (k * sz))
def byteAt (s : Str) (c : Int) : Int := firstIdx (ba s) c.toNat.toUInt8
def IU (s u : Str) : Int := Lib.compareBytes s u
section
variable {P : Program} {n : Nat} {fs : Fr} {a : Act} {o : Oper} {v : Value} {ops : Array Oper} {rest : List Oper} {Q : Exit → Act → World → Prop} {w w0 : World} {M : Nat → Prop} {σ : List gW}
theorem V.conv {s t : TypeId} {x : Operand} {k k' : IntKind} {z : Int} {ty : TypeDesc} (ho : o.op = .convert s t x) (hx : ev fs x = some (.int k z)) (hs : ∀ w, (underlying s).run P w = .ok ty w) (ht : ∀ w, (underlying t).run P w = .ok (.int k') w) :
    ∀ a w, eU n fs a → Sat w0 M σ w → jd P o a w (.int k' (cvt k' z)) := fun a w hf _ => by
  have e1 := hf.gZ hx
  refine iL (s := convert s t (a.eval x)) (by unfold execOp; rw [ho]) ?_
  rw [e1]
  unfold convert
  simp only [Sem.run_bind, hs, ht, Result.andThen_ok, Conv.intToInt, cvt]
  rfl
theorem V.bits {op : BinOp} {k : IntKind} {t ty : TypeId} {x y : Operand} {m m' r : Int} (ho : o.op = .binOp op t x y ty) (hx : ev fs x = some (.int k m)) (hy : ev fs y = some (.int k m'))
    (hr : (match op with | .and => some (Qx k m m') | .or => some (orI k m m') | .andNot => some (LC k m m') | _ => none) = some r) :
    ∀ a w, eU n fs a → Sat w0 M σ w → jd P o a w (.int k r) := fun a w hf _ => by
  have e1 := hf.gZ hx
  have e2 := hf.gZ hy
  refine iL (s := (do eqGuard op t x y (a.eval x) (a.eval y); binOp op t (a.eval x) (a.eval y))) (by unfold execOp; rw [ho]) ?_
  rw [e1, e2]
  cases op <;> simp only [reduceCtorEq, Option.some.injEq] at hr <;> subst hr <;>
    simp only [Sem.run_bind, eqGuard, binOp, Op.intBits, ne_eq, not_true, if_false, Qx, orI, LC] <;> rfl
theorem V.min2 {ts : Array TypeId} {x y : Operand} {m n' : Int} (ho : o.op = .call ⟨.builtin .min, #[x, y], ts⟩) (hx : ev fs x = some (.int .i64 m)) (hy : ev fs y = some (.int .i64 n')) :
    ∀ a w, eU n fs a → Sat w0 M σ w → jd P o a w (.int .i64 (min m n')) := fun a w hf _ => by
  have e1 := hf.gZ hx
  have e2 := hf.gZ hy
  have : (if n' < m then n' else m) = min m n' := by omega
  unfold jd execOp
  simp only [ho, resolve, invoke, builtin, Sem.run_bind, Sem.run_pure, Result.andThen_ok, List.map_toArray, List.map_cons, List.map_nil, e1, e2, Builtin.min_]
  simp [Builtin.min2, this]
theorem View.sub {α : Type} [Rep α] {F : Nat → Prop} {A : Option Addr} {C : Nat} {xs : List α} (h : View w F A C xs) {lo hi : Int} (hb : 0 ≤ lo ∧ lo ≤ hi ∧ hi ≤ xs.length) : View w F (xg A C lo.toNat (Rep.sz α)) (C - lo.toNat) (seg xs lo hi) := by
  have hc := h.cap
  have hm := h.most
  refine ⟨by rw [seg_length (by omega)]; omega, by omega, fun i x hx => ?_⟩
  have hx' : xs[lo.toNat + i]? = some x := by
    simp only [seg, List.getElem?_drop, List.getElem?_take] at hx
    split at hx
    · exact hx
    · cases hx
  obtain ⟨cs, ⟨ad, rfl, hbk, hcs⟩, hr⟩ := h.at_ _ _ hx'
  have hlt := dO hx'
  refine ⟨cs, ⟨ad.add (lo.toNat * Rep.sz α), ?_, by rw [block_add]; exact hbk, fun j v hv => ?_⟩, hr⟩
  · unfold xg
    rw [if_neg (by omega)]; rfl
  · rw [add_add', ← hcs j v hv, Nat.add_mul, Nat.add_assoc]
def evB (fs : Fr) : Option Operand → Option (Option Int)
  | none => some none
  | some x => match ev fs x with
    | some (.int .i64 z) => some (some z)
    | _ => none
theorem run_sliceBound {z : Int} {y : Nat} {code : BoundsCode} (h : 0 ≤ z ∧ z ≤ y) : (Instr.sliceBound (.int .i64 z) y code).run P w = .ok z.toNat w := by
  unfold Instr.sliceBound
  simp only [asIntOf, Sem.run_bind, Sem.run_pure, Result.andThen_ok, h, and_self, if_true]
theorem E8 {isSlice : Bool} {len cap : Nat} {lo hi : Option Int} (hb : 0 ≤ lo.getD 0 ∧ lo.getD 0 ≤ hi.getD len ∧ hi.getD len ≤ len) (hc : len ≤ cap) :
    (Instr.sliceBounds isSlice len cap (lo.map (Value.int .i64)) (hi.map (Value.int .i64)) none).run P w = .ok ((lo.getD 0).toNat, (hi.getD len).toNat, cap) w := by
  unfold Instr.sliceBounds
  cases lo <;> cases hi <;> simp only [Option.map_none, Option.map_some, Option.getD_none, Option.getD_some] at hb ⊢
  · simp only [Sem.run_bind, Sem.run_pure, Result.andThen_ok]; rfl
  · rename_i zh
    simp only [Sem.run_bind, Sem.run_pure, Result.andThen_ok]
    rw [run_sliceBound (by omega)]; rfl
  · rename_i zl
    simp only [Sem.run_bind, Sem.run_pure, Result.andThen_ok]
    rw [run_sliceBound (by omega)]; rfl
  · rename_i zl zh
    simp only [Sem.run_bind, Sem.run_pure, Result.andThen_ok]
    rw [run_sliceBound (by omega)]
    simp only [Result.andThen_ok]
    rw [run_sliceBound (by omega)]; rfl
theorem V.slice {t e : TypeId} {x : Operand} {lo hi : Option Operand} {zl zh : Option Int} {A : Option Addr} {l l' C sz : Nat} {L H : Int} (ho : o.op = .slice t x lo hi none) (hx : ev fs x = some (.slice A l C)) (hlo : evB fs lo = some zl) (hhi : evB fs hi = some zh)
    (ht : ∀ w, (underlying t).run P w = .ok (.slice e) w) (hsz : ∀ w, (Go.sizeOf e).run P w = .ok sz w) (hL : zl.getD 0 = L) (hH : zh.getD l = H) (hb : 0 ≤ L ∧ L ≤ H ∧ H ≤ l) (hC : l ≤ C) (hl : l' = H.toNat - L.toNat) :
    ∀ a w, eU n fs a → Sat w0 M σ w → jd P o a w (.slice (xg A C L.toNat sz) l' (C - L.toNat)) := fun a w hf _ => by
  have e1 := hf.gZ hx
  have e2 : lo.map a.eval = zl.map (Value.int .i64) := by
    cases lo with
    | none => simp only [evB, Option.some.injEq] at hlo; rw [← hlo]; rfl
    | some y =>
      simp only [evB] at hlo
      split at hlo <;> try (cases hlo; done)
      rename_i z hz
      simp only [Option.some.injEq] at hlo; rw [← hlo]; simp [hf.gZ hz]
  have e3 : hi.map a.eval = zh.map (Value.int .i64) := by
    cases hi with
    | none => simp only [evB, Option.some.injEq] at hhi; rw [← hhi]; rfl
    | some y =>
      simp only [evB] at hhi
      split at hhi <;> try (cases hhi; done)
      rename_i z hz
      simp only [Option.some.injEq] at hhi; rw [← hhi]; simp [hf.gZ hz]
  refine iL (s := Instr.sliceAt t (a.eval x) (lo.map a.eval) (hi.map a.eval) (Option.map a.eval none)) (by unfold execOp; rw [ho]) ?_
  rw [e1, e2, e3]
  unfold Instr.sliceAt Instr.slice
  have hb' : 0 ≤ zl.getD 0 ∧ zl.getD 0 ≤ zh.getD l ∧ zh.getD l ≤ l := by rw [hL, hH]; exact hb
  simp only [Sem.run_bind, ht, Result.andThen_ok, Option.map_none, E8 hb' hC, hsz, hL, hH, Sem.run_pure, hl, xg]
theorem Sat.vT (hs : Sat w0 M σ w) (q : Nat) {g : Nat} {e : TypeId} {vs : List Value} (hq : σ[q]? = some (hbox g e vs)) : gU w (old w none_) (some ⟨g, 0, none⟩) 0 vs := by
  obtain ⟨F, ⟨hg, hF⟩, hlt⟩ := hs.nth hq
  refine ⟨_, rfl, ⟨hlt g ((hF g).2 rfl), fun e => e⟩, fun j v hv => ?_⟩
  rw [Addr.add_lit, Nat.zero_add, Nat.zero_add, cell_of_row w g _ vs.toArray e (0, 0) hg]
  simpa using hv
theorem Ag.elem {wR : World} {F : Nat → Prop} (ag : Ag w0 M σ wR F) {A : Option Addr} {k : Nat} {cs : List Value} (h : gU wR F A k cs) (hs : Sat w0 M σ w) : gU w (old w none_) A k cs :=
  h.mono fun b hb => ⟨⟨(ag w hs b hb).1, fun e => e⟩, (ag w hs b hb).2⟩
theorem V.fU {wR : World} {F : Nat → Prop} (ag : Ag w0 M σ wR F) {g off m : Nat} {cs : List Value} (he : gU wR F (some ⟨g, 0, none⟩) 0 cs) {t : TypeId} {x : Operand} {agg : Bool} (ho : o.op = .load t x) (hx : ev fs x = some (.pointer (some ⟨g, off, none⟩)))
    (hag : ∀ w, (isAgg t).run P w = .ok agg w) (hsz : ∀ w, (Go.sizeOf t).run P w = .ok m w) (hl : ((cs.drop off).take m).length = m) (hv : mkv agg ((cs.drop off).take m) = some v) :
    ∀ a w, eU n fs a → Sat w0 M σ w → jd P o a w v := fun a w hf hs => by
  refine V.gX ag he (k' := off) ho ?_ (by rw [Nat.zero_add]) hag hsz hl hv a w hf hs
  rw [hx]
  show some (Value.pointer (some ⟨g, off, none⟩)) = some (Value.pointer (some (Addr.add ⟨g, 0, none⟩ off)))
  rw [Addr.add_lit, Nat.zero_add]
theorem V.extern {x : Operand} {xs : Array Operand} {ts : Array TypeId} {f : FuncId} {fn : Func} {vs : List Value} {e : Array Value → Sem Value} (hf' : P.funcs[f]? = some fn) (hname : (fn.name == "runtime.NumGoroutine") = false) (hb : fn.body.isNone = true) (hn : Extern.findNext fn = none) (he : Extern.find fn = some e)
    (ho : o.op = .call ⟨.value x, xs, ts⟩) (hx : ev fs x = some (.func (.func f) #[] #[])) (hxs : evs fs xs.toList = some vs) (hr : ∀ w, (e vs.toArray).run P w = .ok v w) :
    ∀ a w, eU n fs a → Sat w0 M σ w → jd P o a w v := fun a w hf _ => by
  have e1 := hf.gZ hx
  have e2 : xs.map a.eval = vs.toArray := Array.ext' (by rw [Array.toList_map]; exact Gw hf hxs)
  unfold jd execOp
  simp only [ho, resolve, e1, e2, Deferred.ofValue, Sem.run_bind, Sem.run_pure, Result.andThen_ok, invoke]
  have h1 : (#[] : Array Value) ++ vs.toArray ++ #[] = vs.toArray := by simp
  rw [h1, run_callFunc_extern hf' hname hb hn he, hr]
  rfl
theorem KG (s : Str) (c : Int) (w : World) : (Extern.BytealgIndexByte.indexByte [Value.string (ba s), .int .u8 c].toArray).run P w = .ok (.int .i64 (byteAt s c)) w := run_indexByte_string (ba s) c w
end
theorem lt3 (x y : UInt8) : x < y ∨ x = y ∨ y < x := by
  rw [UInt8.lt_iff_toNat_lt, UInt8.lt_iff_toNat_lt, ← UInt8.toNat_inj]; omega
theorem J7 : ∀ (s u : Str), (IU s u = 0 ∧ s = u) ∨ (IU s u = -1 ∧ qm s u = true ∧ s ≠ u) ∨ (IU s u = 1 ∧ qm u s = true ∧ qm s u = false ∧ s ≠ u) := by
  intro s
  induction s with
  | nil =>
    intro u
    cases u with
    | nil => exact .inl ⟨rfl, rfl⟩
    | cons b u => exact .inr (.inl ⟨rfl, rfl, by simp⟩)
  | cons x s ih =>
    intro u
    cases u with
    | nil => exact .inr (.inr ⟨rfl, rfl, rfl, by simp⟩)
    | cons y u =>
      rcases ih u with ⟨h1, h2⟩ | ⟨h1, h2, h3⟩ | ⟨h1, h2, h3, h4⟩
      all_goals
        unfold IU at h1 ⊢
        unfold Lib.compareBytes
        unfold qm at *
        rcases lt3 x y with hxy | hxy | hxy
        · have h5 : ¬ y < x := by rw [UInt8.lt_iff_toNat_lt] at *; omega
          have h6 : x ≠ y := by intro e; subst e; rw [UInt8.lt_iff_toNat_lt] at hxy; omega
          simp [hxy, Op.bytesLess, h6]
        · subst hxy
          have h5 : ¬ x < x := by rw [UInt8.lt_iff_toNat_lt]; omega
          simp_all [Op.bytesLess]
        · have h5 : ¬ x < y := by rw [UInt8.lt_iff_toNat_lt] at *; omega
          have h6 : x ≠ y := by intro e; subst e; rw [UInt8.lt_iff_toNat_lt] at hxy; omega
          simp [hxy, h5, Op.bytesLess, h6]
def Ap {K V : Type} [DecidableEq K] (m : List (K × V)) (k : K) : Option V := (m.find? (fun p => decide (p.1 = k))).map (·.2)
def Aj {K V : Type} [DecidableEq K] : List (K × V) → K → V → List (K × V)
  | [], k, v => [(k, v)]
  | p :: r, k, v => if p.1 = k then (k, v) :: r else p :: Aj r k v
theorem JR {K V : Type} [DecidableEq K] (k k' : K) (v : V) : ∀ m : List (K × V), Ap (Aj m k v) k' = if k = k' then some v else Ap m k'
  | [] => by unfold Ap Aj; simp only [List.find?_cons, List.find?_nil]; by_cases h : k = k' <;> simp [h]
  | p :: r => by
    have ih := JR k k' v r
    unfold Ap at *
    unfold Aj
    by_cases h1 : p.1 = k
    · subst h1
      rw [if_pos rfl]
      by_cases h2 : p.1 = k'
      · simp [h2]
      · simp [List.find?_cons, h2]
    · rw [if_neg h1]
      by_cases h2 : p.1 = k'
      · have h3 : k ≠ k' := fun e => h1 (e ▸ h2)
        simp [List.find?_cons, h2, h3]
      · simp only [List.find?_cons, h2, decide_false]; exact ih
structure L9 (P : Program) (kt : TypeId) {K : Type} [DecidableEq K] (ek : K → Value) : Prop where
  check : ∀ em x w, (Instr.checkKey em 10000 kt (ek x)).run P w = .ok () w
  find : ∀ x (es : List MapEntry) (ks : List K) w, es.map (·.key) = ks.map ek → (Instr.findKey kt (ek x) es).run P w = .ok ((ks.findIdx? (fun y => decide (y = x))).bind (fun i => (es[i]?).map (fun e => (i, e.val)))) w
  bits : ∀ x, Instr.sameBits 10000 (ek x) (ek x) = true
section
variable {P : Program}
theorem Aa {kt : TypeId} {K : Type} [DecidableEq K] {ek : K → Value} (heq : ∀ x y w, (Op.equal kt (ek x) (ek y)).run P w = .ok (decide (x = y)) w) (x : K) (w : World) :
    ∀ (es : List MapEntry) (ks : List K) (i : Nat), es.map (·.key) = ks.map ek → (Instr.findAsking kt (ek x) es i).run P w = .ok ((ks.findIdx? (fun y => decide (y = x))).bind (fun j => (es[j]?).map (fun e => (i + j, e.val)))) w
  | [], [], i, _ => rfl
  | [], _ :: _, _, h => by simp at h
  | _ :: _, [], _, h => by simp at h
  | e :: es, y :: ks, i, h => by
    simp only [List.map_cons, List.cons.injEq] at h
    unfold Instr.findAsking
    rw [h.1]
    simp only [Sem.run_bind, heq, Result.andThen_ok, List.findIdx?_cons]
    by_cases hxy : x = y
    · subst hxy; simp [Sem.run_pure]
    · have hyx : ¬ y = x := fun e => hxy e.symm
      simp only [hxy, hyx, decide_false, Bool.false_eq_true, if_false]
      rw [Aa heq x w es ks (i + 1) h.2]
      cases ks.findIdx? (fun y => decide (y = x)) with
      | none => rfl
      | some j => simp [Nat.add_assoc, Nat.add_comm 1 j]
def Df (P : Program) (n : Nat) (t : TypeId) (v : Value) : Prop := ∀ em w, (Instr.checkKey em n t v).run P w = .ok () w
theorem DT {n : Nat} {t : TypeId} {k : IntKind} (hu : ∀ w, (underlying t).run P w = .ok (.int k) w) (v : Value) : Df P (n + 1) t v := fun em w => by
  unfold Instr.checkKey; simp only [Sem.run_bind, hu, Result.andThen_ok]; rfl
theorem Cj {α : Type} {body : α → PUnit → Sem (ForInStep PUnit)} {w : World} : ∀ (l : List α), (∀ x ∈ l, (body x ⟨⟩).run P w = .ok (.yield ⟨⟩) w) → (forIn l PUnit.unit body : Sem PUnit).run P w = .ok ⟨⟩ w
  | [], _ => rfl
  | x :: r, h => by
    rw [List.forIn_cons]
    simp only [Sem.run_bind, h x (List.mem_cons_self ..), Result.andThen_ok]
    exact Cj r (fun y hy => h y (List.mem_cons_of_mem _ hy))
theorem I9 {n : Nat} {t : TypeId} {fls : Array Field} {cs : Array Value} (hu : ∀ w, (underlying t).run P w = .ok (.struct fls) w) (h : ∀ f ∈ fls.toList, ∃ v, (∀ w, (part f.type cs f.offset).run P w = .ok v w) ∧ Df P n f.type v) : Df P (n + 1) t (.agg cs) := fun em w => by
  unfold Instr.checkKey
  simp only [Sem.run_bind, hu, Result.andThen_ok]
  rw [← Array.forIn_toList]
  refine (congrArg (fun r => Result.andThen r _) (Cj fls.toList (fun f hf => ?_))).trans rfl
  obtain ⟨v, h1, h2⟩ := h f hf
  by_cases hn : f.name ≠ "_"
  · rw [if_pos hn]
    simp only [Sem.run_bind, h1, Result.andThen_ok, h2 em w]
    rfl
  · rw [if_neg hn]; rfl
theorem KC {kt : TypeId} {fls : Array Field} {K : Type} [DecidableEq K] {ek : K → Array Value} (hu : ∀ w, (underlying kt).run P w = .ok (.struct fls) w) (hc : ∀ x, Df P 10000 kt (.agg (ek x)))
    (heq : ∀ x y w, (Op.equal kt (.agg (ek x)) (.agg (ek y))).run P w = .ok (decide (x = y)) w) (hb : ∀ x, Instr.sameBits 10000 (.agg (ek x)) (.agg (ek x)) = true) : L9 P kt (fun x => Value.agg (ek x)) :=
  ⟨fun em x w => hc x em w, fun x es ks w h => by
    unfold Instr.findKey
    simp only [Sem.run_bind, hu, Result.andThen_ok]
    cases es with
    | nil =>
      cases ks with
      | nil => rfl
      | cons y ks => simp at h
    | cons e es =>
      have hn : Instr.findNow (.struct fls) (.agg (ek x)) (e :: es) 0 = none := by
        unfold Instr.findNow
        have : Instr.sameNow (.struct fls) (.agg (ek x)) e.key = none := by cases e.key <;> rfl
        rw [this]
      rw [hn]
      have := Aa (P := P) (ek := fun x => Value.agg (ek x)) heq x w (e :: es) ks 0 h
      simpa using this, hb⟩
structure ER {K V : Type} (ek : K → Value) (ev : V → Value) (m : List (K × V)) (es : Array MapEntry) (clock : Nat) : Prop where
  pairs : es.toList.map (fun e => (e.key, e.val)) = m.map (fun p => (ek p.1, ev p.2))
  once : ∀ (i j : Nat) (e e' : MapEntry), es[i]? = some e → es[j]? = some e' → e.born = e'.born → i = j
  born : ∀ e ∈ es.toList, e.born < clock
def hmap {K V : Type} (g : Nat) (ek : K → Value) (ev : V → Value) (m : List (K × V)) : gW :=
  ⟨fun w F => (∃ es clock, w.heap[g]? = some (.map es clock) ∧ ER ek ev m es clock) ∧ ∀ b, F b ↔ b = g,
    fun ⟨⟨es, c, h, he⟩, hF⟩ hb => ⟨⟨es, c, (hb g ((hF g).2 rfl)).trans h, he⟩, hF⟩⟩
theorem Lc {w : World} {r : Nat} {es : Array MapEntry} {clock : Nat} (hb : w.heap[r]? = some (.map es clock)) : (getObj r).run P w = .ok (.map es clock) w := by
  simp [getObj, Sem.run, hb]
theorem NV {w : World} {r : Nat} {es : Array MapEntry} {clock : Nat} (o : Obj) (hb : w.heap[r]? = some (.map es clock)) : (setObj r o).run P w = .ok () { w with heap := w.heap.setIfInBounds r o } := by
  simp [setObj, Sem.run, hb]
theorem Keeps.setObj (w : World) (g : Nat) (o : Obj) {M : Nat → Prop} (h : M g) : Keeps w M { w with heap := w.heap.setIfInBounds g o } :=
  ⟨rfl, rfl, rfl, by simp, fun b _ hm => by
    have : g ≠ b := fun e => hm (e ▸ h)
    simp [this], fun _ => Nat.le_refl _⟩
section
variable {n : Nat} {fs : Fr} {a : Act} {o : Oper} {v : Value} {ops : Array Oper} {rest : List Oper} {Q : Exit → Act → World → Prop} {w w0 : World} {M : Nat → Prop} {σ : List gW}
theorem S.makeMap (hf : eU n fs a) (hs : Sat w0 M σ w) {d : Nat} (hg : gv ops fs o = some true) (hd : o.dst = some d) (hdn : Nat.blt d n = true) {K V : Type} (ek : K → Value) (ev' : V → Value) {t : TypeId} (ho : o.op = .makeMap t none)
    (k : ∀ g a w', eU n ((d, .map (some g)) :: fs) a → Sat w0 M (hmap g ek ev' [] :: σ) w' → wpList P ops Q rest a w') : wpList P ops Q (o :: rest) a w := by
  refine S.act (R := fun v w' => ∃ g, v = .map (some g) ∧ Sat w0 M (hmap g ek ev' [] :: σ) w') hf hg hd hdn (fun a hf => ?_) (fun v a w' hf ⟨g, hv, hs⟩ => k g a w' (hv ▸ hf) hs)
  refine ⟨_, w.alloc (.map #[] 0), ?_, w.heap.size, rfl, hs.add (Keeps.alloc w _ _) (F' := fun b => b = w.heap.size) ⟨⟨#[], 0, jH w _, rfl, fun i j e e' h => by simp at h, fun e h => by simp at h⟩, fun b => Iff.rfl⟩ (fun b hb => by subst hb; simp)⟩
  unfold execOp
  simp only [ho, Option.map_none, Sem.run_bind]
  rw [show (Instr.makeMap t none).run P w = .ok (.map (some w.heap.size)) (w.alloc (.map #[] 0)) from rfl]
  rfl
theorem FV {K V : Type} {ek : K → Value} {ev' : V → Value} {m : List (K × V)} {es : Array MapEntry} {c : Nat} (h : ER ek ev' m es c) : es.toList.map (·.key) = (m.map (·.1)).map ek := by
  have := congrArg (fun l => l.map Prod.fst) h.pairs
  simpa [List.map_map, Function.comp_def] using this
theorem JZ {K V : Type} {ek : K → Value} {ev' : V → Value} {m : List (K × V)} {es : Array MapEntry} {c : Nat} (h : ER ek ev' m es c) {i : Nat} {p : K × V} (hp : m[i]? = some p) : ∃ e, es[i]? = some e ∧ e.key = ek p.1 ∧ e.val = ev' p.2 := by
  have := congrArg (fun l => l[i]?) h.pairs
  simp only [List.getElem?_map, hp, Option.map_some, Array.getElem?_toList] at this
  cases he : es[i]? with
  | none => rw [he] at this; cases this
  | some e => rw [he] at this; simp only [Option.map_some, Option.some.injEq, Prod.mk.injEq] at this; exact ⟨e, rfl, this.1, this.2⟩
theorem Ii {K V : Type} [DecidableEq K] (m : List (K × V)) (k : K) : match (m.map (·.1)).findIdx? (fun y => decide (y = k)) with
    | some i => ∃ p, m[i]? = some p ∧ p.1 = k ∧ Ap m k = some p.2 ∧ ∀ v, Aj m k v = m.set i (k, v)
    | none => Ap m k = none ∧ ∀ v, Aj m k v = m ++ [(k, v)] := by
  induction m with
  | nil => exact ⟨rfl, fun _ => rfl⟩
  | cons p r ih =>
    simp only [List.map_cons, List.findIdx?_cons]
    by_cases h : p.1 = k
    · simp only [h, decide_true, if_true]
      exact ⟨p, rfl, h, by simp [Ap, h], fun v => by simp [Aj, h]⟩
    · simp only [h, decide_false, Bool.false_eq_true, if_false]
      have hg : Ap (p :: r) k = Ap r k := by simp [Ap, h]
      cases hr : (r.map (·.1)).findIdx? (fun y => decide (y = k)) with
      | none => rw [hr] at ih; exact ⟨by rw [hg]; exact ih.1, fun v => by simp [Aj, h, ih.2 v]⟩
      | some i => rw [hr] at ih; obtain ⟨q, h1, h2, h3, h4⟩ := ih; exact ⟨q, by simpa using h1, h2, by rw [hg]; exact h3, fun v => by simp [Aj, h, h4 v]⟩
theorem V.lookup (q : Nat) {K V : Type} [DecidableEq K] {g : Nat} {ek : K → Value} {ev' : V → Value} {m : List (K × V)} (hq : σ[q]? = some (hmap g ek ev' m)) {t kt et : TypeId} {x i : Operand} {k : K} {u z : V} (ho : o.op = .lookup t x i false) (hx : ev fs x = some (.map (some g))) (hi : ev fs i = some (ek k))
    (ht : ∀ w, (underlying t).run P w = .ok (.map kt et) w) (hk : L9 P kt ek) (hz : ∀ w, (zeroValue et).run P w = .ok (ev' z) w) (hu : (Ap m k).getD z = u) (hv : ev' u = v) :
    ∀ a w, eU n fs a → Sat w0 M σ w → jd P o a w v := fun a w hf hs => by
  have e1 := hf.gZ hx
  have e2 := hf.gZ hi
  obtain ⟨F, ⟨⟨es, c, hh, hm⟩, hF⟩, _⟩ := hs.nth hq
  subst hu; subst hv
  refine iL (s := Instr.lookup t (a.eval x) (a.eval i) false) (by unfold execOp; rw [ho]) ?_
  rw [e1, e2]
  unfold Instr.lookup
  simp only [Sem.run_bind, ht, Result.andThen_ok, Lc hh, Sem.run_pure, hk.check, hk.find k es.toList (m.map (·.1)) w (FV hm)]
  have := Ii m k
  split at this <;> rename_i hi'
  · obtain ⟨p, h1, h2, h3, _⟩ := this
    obtain ⟨e, h4, h5, h6⟩ := JZ hm h1
    rw [hi', h3]
    simp [h4, h6, Sem.run_pure]
  · rw [hi', this.1]
    simp [Sem.run_bind, hz, Sem.run_pure]
theorem S.mapUpdate (q : Nat) (hf : eU n fs a) (hs : Sat w0 M σ w) (hg : gv ops fs o = some true) (hd : o.dst = none) {K V : Type} [DecidableEq K] {g : Nat} {ek : K → Value} {ev' : V → Value} {m : List (K × V)} (hq : σ[q]? = some (hmap g ek ev' m)) {t kt et : TypeId} {x i y : Operand} (k : K) (u : V)
    (ho : o.op = .mapUpdate t x i y) (hx : ev fs x = some (.map (some g))) (hi : ev fs i = some (ek k)) (hy : ev fs y = some (ev' u)) (ht : ∀ w, (underlying t).run P w = .ok (.map kt et) w) (hk : L9 P kt ek)
    (kk : ∀ a w', eU n fs a → Sat w0 M (σ.set q (hmap g ek ev' (Aj m k u))) w' → wpList P ops Q rest a w') : wpList P ops Q (o :: rest) a w := by
  refine S.P8 (R := fun w' => Sat w0 M (σ.set q (hmap g ek ev' (Aj m k u))) w') hf hg hd (fun a hf => ?_) (fun a w' hf hs => kk a w' hf hs)
  obtain ⟨F, ⟨⟨es, c, hh, hm⟩, hF⟩, hlt, hupd⟩ := hs.upd q hq
  have e1 := hf.gZ hx
  have e2 := hf.gZ hi
  have e3 := hf.gZ hy
  have fin : ∀ es' c', ER ek ev' (Aj m k u) es' c' → Sat w0 M (σ.set q (hmap g ek ev' (Aj m k u))) { w with heap := w.heap.setIfInBounds g (.map es' c') } := fun es' c' h =>
    hupd _ _ F (Keeps.setObj w g _ ((hF g).2 rfl)) ⟨⟨es', c', by have hlt := (Array.getElem?_eq_some_iff.1 hh).1; simp [hlt], h⟩, hF⟩ (fun b hb => ⟨.inl hb, by simpa using hlt b hb⟩)
  have hrun : ∃ es' c', ER ek ev' (Aj m k u) es' c' ∧ (Instr.mapUpdate t (.map (some g)) (ek k) (ev' u)).run P w = .ok () { w with heap := w.heap.setIfInBounds g (.map es' c') } := by
    unfold Instr.mapUpdate
    simp only [Sem.run_bind, ht, Result.andThen_ok, Lc hh, hk.check, hk.find k es.toList (m.map (·.1)) w (FV hm)]
    have := Ii m k
    split at this <;> rename_i j hj
    · obtain ⟨p, h1, h2, h3, h4⟩ := this
      obtain ⟨e, h5, h6, h7⟩ := JZ hm h1
      rw [h4]
      refine ⟨es.modify j fun e => { e with key := ek k, val := ev' u }, c, ⟨?_, ?_, ?_⟩, ?_⟩
      · apply List.ext_getElem?
        intro i
        have hpi := congrArg (fun l => l[i]?) hm.pairs
        simp only [List.getElem?_map, Array.getElem?_toList] at hpi ⊢
        rw [Array.getElem?_modify, List.getElem?_set]
        by_cases hji : j = i
        · subst hji
          simp [h5, dO h1]
        · simp only [hji, if_false]; exact hpi
      · intro i i' e e' he he'
        rw [Array.getElem?_modify] at he he'
        have g1 : ∃ e0, es[i]? = some e0 ∧ e0.born = e.born := by
          split at he
          · cases h0 : es[i]? with
            | none => rw [h0] at he; cases he
            | some e0 => rw [h0] at he; injection he with he; subst he; exact ⟨e0, rfl, rfl⟩
          · exact ⟨e, he, rfl⟩
        have g2 : ∃ e0, es[i']? = some e0 ∧ e0.born = e'.born := by
          split at he'
          · cases h0 : es[i']? with
            | none => rw [h0] at he'; cases he'
            | some e0 => rw [h0] at he'; injection he' with he'; subst he'; exact ⟨e0, rfl, rfl⟩
          · exact ⟨e', he', rfl⟩
        obtain ⟨a1, b1, c1⟩ := g1
        obtain ⟨a2, b2, c2⟩ := g2
        intro hbb
        exact hm.once i i' a1 a2 b1 b2 (by rw [c1, c2, hbb])
      · intro e he
        obtain ⟨i, hi'⟩ := List.getElem?_of_mem he
        rw [Array.getElem?_toList, Array.getElem?_modify] at hi'
        split at hi'
        · cases h0 : es[i]? with
          | none => rw [h0] at hi'; cases hi'
          | some e0 =>
            rw [h0] at hi'; injection hi' with hi'; subst hi'
            exact hm.born e0 (by rw [← Array.getElem?_toList] at h0; exact List.mem_of_getElem? h0)
        · rw [← Array.getElem?_toList] at hi'; exact hm.born e (List.mem_of_getElem? hi')
      · rw [hj]
        have hkey : e.key = ek k := by rw [h6, h2]
        simp [h5, hkey, Instr.keyThatStays, hk.bits, Sem.run_pure, NV _ hh]
    · rw [this.2]
      refine ⟨es.push { key := ek k, val := ev' u, born := c }, c + 1, ⟨?_, ?_, ?_⟩, ?_⟩
      · simp [hm.pairs]
      · intro i i' e e' he he' hbb
        have bnd : ∀ (i : Nat) (e : MapEntry), (es.push { key := ek k, val := ev' u, born := c })[i]? = some e → (es[i]? = some e ∧ e.born < c) ∨ (i = es.size ∧ e.born = c) := by
          intro i e h
          rw [Array.getElem?_push] at h
          split at h
          · rename_i hi'; injection h with h; subst h; exact .inr ⟨hi', rfl⟩
          · exact .inl ⟨h, hm.born e (by rw [← Array.getElem?_toList] at h; exact List.mem_of_getElem? h)⟩
        rcases bnd i e he with ⟨g1, g2⟩ | ⟨g1, g2⟩ <;> rcases bnd i' e' he' with ⟨g3, g4⟩ | ⟨g3, g4⟩
        · exact hm.once i i' e e' g1 g3 hbb
        · omega
        · omega
        · omega
      · intro e he
        simp only [Array.toList_push, List.mem_append, List.mem_singleton] at he
        rcases he with h | h
        · have := hm.born e h; omega
        · subst h; exact Nat.lt_succ_self _
      · rw [hj]
        simp [NV _ hh]
  obtain ⟨es', c', h1, h2⟩ := hrun
  refine ⟨_, ?_, fin es' c' h1⟩
  unfold execOp
  simp only [ho, e1, e2, e3, Sem.run_bind, h2, Result.andThen_ok]
  rfl
end
end
end Go.Proofs.YtfjcgoiedlimdaaGreatDoor
