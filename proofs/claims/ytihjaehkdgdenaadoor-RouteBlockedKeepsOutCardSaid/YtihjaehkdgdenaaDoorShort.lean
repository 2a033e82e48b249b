/- Chapter texts of ours, as far as the claim needs them. -/
import Derived.Test.YtihjaehkdgdenaaDoorIface
namespace Go.Proofs.YtihjaehkdgdenaaDoor
open Go Go.RowKit
set_option linter.unusedVariables false
set_option linter.unusedSectionVars false
set_option linter.unusedSimpArgs false
abbrev iv (n : Int) : Value := .int .i64 n
abbrev pn (g k : Nat) : Value := .pointer (some ⟨g, k, none⟩)
def sameB : Bool → Bool → Bool
  | true, b => b
  | false, b => !b
def okv (n : Nat) (ops : Array Oper) (fs : Fr) (o : Oper) (b : Bool) : Option Nat :=
  match gv ops fs o with
  | some c => match o.dst with
    | some d => match sameB c b && Nat.blt d n with
      | true => some d
      | false => none
    | none => none
  | none => none
theorem okv_spec {n : Nat} {ops : Array Oper} {fs : Fr} {o : Oper} {b : Bool} {d : Nat} (h : okv n ops fs o b = some d) : gv ops fs o = some b ∧ o.dst = some d ∧ Nat.blt d n = true := by
  unfold okv at h
  split at h
  · rename_i c hc
    split at h
    · rename_i d' hd
      split at h
      · rename_i hb
        injection h with h; subst h
        rw [Bool.and_eq_true] at hb
        refine ⟨?_, hd, hb.2⟩
        rw [hc]
        have := hb.1
        cases c <;> cases b <;> first | rfl | cases this
      · cases h
    · cases h
  · cases h
def okh (ops : Array Oper) (listed : Array Bool) (i : Nat) : Bool := Region.noSelect ops && Region.free .any ops listed i && (Region.ready .any ops listed).contains i
theorem okh_spec {ops : Array Oper} {listed : Array Bool} {i : Nat} (h : okh ops listed i = true) : Region.noSelect ops = true ∧ Region.free .any ops listed i = true ∧ (Region.ready .any ops listed).contains i = true := by
  unfold okh at h
  rw [Bool.and_eq_true, Bool.and_eq_true] at h
  exact ⟨h.1.1, h.1.2, h.2⟩
def okm (ops : Array Oper) (listed : Array Bool) (i s : Nat) : Bool := okh ops listed i && (waitsFor .any ops s i && (!(listed.getD s true) && !(Nat.beq i s)))
theorem okm_spec {ops : Array Oper} {listed : Array Bool} {i s : Nat} (h : okm ops listed i s = true) : okh ops listed i = true ∧ waitsFor .any ops s i = true ∧ listed.getD s true = false ∧ Nat.beq i s = false := by
  unfold okm at h
  rw [Bool.and_eq_true, Bool.and_eq_true, Bool.and_eq_true, Bool.not_eq_true', Bool.not_eq_true'] at h
  exact ⟨h.1, h.2.1, h.2.2.1, h.2.2.2⟩
section
variable {P : Program} {n : Nat} {fs : Fr} {a : Act} {o : Oper} {ops : Array Oper} {rest : List Oper} {Q : Exit → Act → World → Prop} {w w0 : World} {M : Nat → Prop} {σ : List HProp} {S : World → Prop} {fuel : Nat} {listed : Array Bool}
theorem S.v (hf : FrOk n fs a) (hs : Sat w0 M σ w) (v : Value) {d : Nat} (e : okv n ops fs o true = some d) (hrun : ∀ a w, FrOk n fs a → Sat w0 M σ w → RunV P o a w v) (k : ∀ a, FrOk n ((d, v) :: fs) a → wpList P ops Q rest a w) : wpList P ops Q (o :: rest) a w :=
  S.val hf hs (okv_spec e).1 (okv_spec e).2.1 (okv_spec e).2.2 hrun k
theorem S.p (hf : FrOk n fs a) (hs : Sat w0 M σ w) (v : Value) {d : Nat} (e : okv n ops fs o true = some d) (hp : pureOp fs o.op = some v) (k : ∀ a, FrOk n ((d, v) :: fs) a → wpList P ops Q rest a w) : wpList P ops Q (o :: rest) a w :=
  S.v hf hs v e (V.pure hp) k
theorem S.k (hf : FrOk n fs a) {d : Nat} (e : okv n ops fs o false = some d) (k : ∀ a, FrOk n ((d, undef) :: fs) a → wpList P ops Q rest a w) : wpList P ops Q (o :: rest) a w :=
  S.skip hf (okv_spec e).1 (okv_spec e).2.1 (okv_spec e).2.2 k
theorem D.v {K : Act → Prop} (hf : FrOk n fs a) (v : Value) {d : Nat} (e : okv n ops fs o true = some d) (hrun : ∀ a w, FrOk n fs a → Sat w0 M σ w → RunV P o a w v) (k : ∀ a, FrOk n ((d, v) :: fs) a → wpQuiet P ops (Sat w0 M σ) K rest a) : wpQuiet P ops (Sat w0 M σ) K (o :: rest) a :=
  D.val hf (okv_spec e).1 (okv_spec e).2.1 (okv_spec e).2.2 hrun k
theorem D.p {K : Act → Prop} (hf : FrOk n fs a) (v : Value) {d : Nat} (e : okv n ops fs o true = some d) (hp : pureOp fs o.op = some v) (k : ∀ a, FrOk n ((d, v) :: fs) a → wpQuiet P ops (Sat w0 M σ) K rest a) : wpQuiet P ops (Sat w0 M σ) K (o :: rest) a :=
  D.v hf v e (V.pure hp) k
theorem D.k {K : Act → Prop} (hf : FrOk n fs a) {d : Nat} (e : okv n ops fs o false = some d) (k : ∀ a, FrOk n ((d, undef) :: fs) a → wpQuiet P ops (Sat w0 M σ) K rest a) : wpQuiet P ops (Sat w0 M σ) K (o :: rest) a :=
  D.skip hf (okv_spec e).1 (okv_spec e).2.1 (okv_spec e).2.2 k
theorem H.v (hf : FrOk n fs a) (hs : S w) (v : Value) (i : Nat) {d : Nat} (hi : ops[i]? = some o) (e : okv n ops fs o true = some d) (h : okh ops listed i = true) (hrun : ∀ a w, FrOk n fs a → S w → RunV P o a w v) (k : ∀ a, FrOk n ((d, v) :: fs) a → wpAnyH P .any ops (noPanic Q) S fuel (listed.setIfInBounds i true) a w) : wpAnyH P .any ops (noPanic Q) S (fuel + 1) listed a w :=
  H.val hf hs hi (okv_spec e).1 (okv_spec e).2.1 (okv_spec e).2.2 (okh_spec h).1 (okh_spec h).2.1 (okh_spec h).2.2 hrun k
theorem H.k (hf : FrOk n fs a) (hs : S w) (i : Nat) {d : Nat} (hi : ops[i]? = some o) (e : okv n ops fs o false = some d) (h : okh ops listed i = true) (k : ∀ a, FrOk n ((d, undef) :: fs) a → wpAnyH P .any ops (noPanic Q) S fuel (listed.setIfInBounds i true) a w) : wpAnyH P .any ops (noPanic Q) S (fuel + 1) listed a w :=
  H.skip hf hs hi (okv_spec e).1 (okv_spec e).2.1 (okv_spec e).2.2 (okh_spec h).1 (okh_spec h).2.1 (okh_spec h).2.2 k
theorem M.v {s : Nat} (hf : FrOk n fs a) (hs : S w) (v : Value) (i : Nat) {d : Nat} (hi : ops[i]? = some o) (e : okv n ops fs o true = some d) (h : okm ops listed i s = true) (hrun : ∀ a w, FrOk n fs a → S w → RunV P o a w v) (k : ∀ a, FrOk n ((d, v) :: fs) a → wpAnyM P .any ops (noPanic Q) S s fuel (listed.setIfInBounds i true) a w) : wpAnyM P .any ops (noPanic Q) S s (fuel + 1) listed a w :=
  have g := okm_spec h
  M.val hf hs hi (okv_spec e).1 (okv_spec e).2.1 (okv_spec e).2.2 (okh_spec g.1).1 (okh_spec g.1).2.1 (okh_spec g.1).2.2 g.2.1 g.2.2.1 g.2.2.2 hrun k
theorem M.k {s : Nat} (hf : FrOk n fs a) (hs : S w) (i : Nat) {d : Nat} (hi : ops[i]? = some o) (e : okv n ops fs o false = some d) (h : okm ops listed i s = true) (k : ∀ a, FrOk n ((d, undef) :: fs) a → wpAnyM P .any ops (noPanic Q) S s fuel (listed.setIfInBounds i true) a w) : wpAnyM P .any ops (noPanic Q) S s (fuel + 1) listed a w :=
  have g := okm_spec h
  M.skip hf hs hi (okv_spec e).1 (okv_spec e).2.1 (okv_spec e).2.2 (okh_spec g.1).1 (okh_spec g.1).2.1 (okh_spec g.1).2.2 g.2.1 g.2.2.1 g.2.2.2 k
end
theorem tab_lt {α : Type} {xs : List α} {z : Int} {y : α} {k : Nat} (h0 : 0 ≤ z) (hy : xs[z.toNat]? = some y) (hl : xs.length = k) : 0 ≤ z ∧ z < (k : Int) := by
  have := lt_of_get hy
  omega
theorem tab_part {α : Type} [Flat α] {P : Program} {t : TypeId} {xs : List α} {cs : Array Value} {z : Int} {y : α} {m : Nat} {v : Value} (hy : xs[z.toNat]? = some y) (hcs : cs = (xs.flatMap Flat.enc).toArray)
    (hag : ∀ w, (isAgg t).run P w = .ok true w) (hsz : ∀ w, (Go.sizeOf t).run P w = .ok m w) (hm : m = Flat.sz α) (hv : v = .agg (Flat.enc y).toArray) : ∀ w, (part t cs (z.toNat * m)).run P w = .ok v w := fun w => by
  subst hm; subst hv
  refine part_agg hag hsz ?_
  subst hcs
  apply Array.ext_getElem?
  intro j
  rw [Array.getElem?_extract]
  have hlt := lt_of_get hy
  have hlen := length_flatMap_enc xs
  have hge : (z.toNat + 1) * Flat.sz α ≤ xs.length * Flat.sz α := Nat.mul_le_mul_right _ hlt
  rw [Nat.add_mul, Nat.one_mul] at hge
  simp only [List.getElem?_toArray, List.size_toArray, hlen]
  rw [Nat.min_eq_left (by omega)]
  split
  · rename_i h
    exact getElem?_flatMap_enc xs _ y hy j (by omega)
  · rename_i h
    rw [List.getElem?_eq_none (by rw [Flat.len]; omega)]
end Go.Proofs.YtihjaehkdgdenaaDoor
