/- Chapter texts of ours, as far as the claim needs them. -/
import Derived.Test.YtihjaehkdgdenaaNest
namespace Go.Proofs.Ytihjaehkdgdenaa
open Go Go.RowKit
set_option linter.unusedVariables false
structure Pt where
  q : Option Nat
  A0 : Option Addr
  C0 : Nat
  A1 : Option Addr
  C1 : Nat
instance : Flat Pt := ⟨1, Nat.one_pos, fun s => [.pointer (s.q.map fun g => ⟨g, 0, none⟩)], fun _ => rfl, fun _ v hv => by simp at hv; subst hv; rfl⟩
structure PBox (X β0 β1 : Type) where
  t : TypeId
  e0 : TypeId
  e1 : TypeId
  cells : Pt → X → List Value
  r0 : X → List β0
  r1 : X → List β1
def isome {X : Type} (o : Option X) (k : X → Prop) : Prop := ∃ y, o = some y ∧ k y
def hall (L : List HProp) : HProp := ⟨fun w F => SatU w F L (fun _ => False), fun h hb => SatU.mono h (fun _ h => h) (fun _ _ h => h) (fun b hz _ => hb b hz)⟩
def hfact (p : Prop) : HProp := ⟨fun _ _ => p, fun h _ => h⟩
section
variable {w w0 : World} {M : Nat → Prop} {σ L : List HProp} {p : Prop}
theorem Sat.hOpen (h : Sat w0 M (hall L :: σ) w) : Sat w0 M (L ++ σ) w := by
  obtain ⟨F, hp, hF, hr⟩ := h.sat
  exact ⟨h.keeps, SatU.append (F := F) hp (fun b hb => (hF b hb).1) (fun _ _ hn => hn) hr⟩
theorem Sat.hClose (h : Sat w0 M (L ++ σ) w) : Sat w0 M (hall L :: σ) w := by
  obtain ⟨F, hF, hL, hσ⟩ := SatU.parts h.sat
  exact ⟨h.keeps, F, hL, hF, hσ⟩
theorem Sat.fact (h : Sat w0 M (hfact p :: σ) w) : p := by
  obtain ⟨F, hp, _, _⟩ := h.sat
  exact hp
theorem Sat.addFact (hp : p) (h : Sat w0 M σ w) : Sat w0 M (hfact p :: σ) w :=
  ⟨h.keeps, fun _ => False, hp, fun _ e => e.elim, SatU.mono h.sat (fun _ h => h) (fun b _ hn e => e.elim hn (fun e => e)) (fun _ _ _ => rfl)⟩
theorem Sat.addFacts (hp : p) (h : Sat w0 M σ w) : ∀ N : Nat, Sat w0 M (List.replicate N (hfact p) ++ σ) w
  | 0 => h
  | N + 1 => Sat.addFact hp (Sat.addFacts hp h N)
end
section
variable {X β0 β1 : Type} [Flat β0] [Flat β1]
def elP (b : PBox X β0 β1) (x : Option X) (s : Pt) : HProp :=
  match x, s.q with
  | none, q => hfact (q = none)
  | some _, none => hfact False
  | some x, some g => hall [hbox g b.t (b.cells s x), hown b.e0 s.A0 s.C0 (b.r0 x), hown b.e1 s.A1 s.C1 (b.r1 x)]
def starP (b : PBox X β0 β1) (m : List (Option X)) (as : List Pt) : List HProp := m.zipWith (elP b) as
def hptrs (b : PBox X β0 β1) (e : TypeId) (A : Option Addr) (C : Nat) (as : List Pt) (m : List (Option X)) : HProp := hall (hfact (as.length = m.length) :: hown e A C as :: starP b m as)
variable {w w0 : World} {M : Nat → Prop} {σ : List HProp} {b : PBox X β0 β1} {e : TypeId} {A : Option Addr} {C : Nat} {as : List Pt} {m : List (Option X)}
theorem starP_get {i : Nat} {x : Option X} {s : Pt} (hz : m[i]? = some x) (ha : as[i]? = some s) : (starP b m as)[i]? = some (elP b x s) := by
  unfold starP; rw [List.getElem?_zipWith, hz, ha]
theorem Sat.pOpen (hs : Sat w0 M σ w) (q : Nat) (hq : σ[q]? = some (hptrs b e A C as m)) : Sat w0 M (hfact (as.length = m.length) :: hown e A C as :: (starP b m as ++ σ.eraseIdx q)) w := (hs.front q hq).hOpen
theorem Sat.ptrsLen (hs : Sat w0 M σ w) (q : Nat) (hq : σ[q]? = some (hptrs b e A C as m)) : as.length = m.length := (hs.pOpen q hq).fact
theorem Sat.ptrsSome (hs : Sat w0 M σ w) (q : Nat) (hq : σ[q]? = some (hptrs b e A C as m)) {i : Nat} {z : Option X} (hz : m[i]? = some z) : A.isSome = true :=
  ((hs.pOpen q hq).ownView 1 rfl).some_ (by rw [hs.ptrsLen q hq]; exact lt_of_get hz)
theorem Sat.pElem (hs : Sat w0 M σ w) (q : Nat) (hq : σ[q]? = some (hptrs b e A C as m)) {i : Nat} {x : Option X} {s : Pt} (hz : m[i]? = some x) (ha : as[i]? = some s) : ∃ σ', Sat w0 M (elP b x s :: σ') w :=
  ⟨_, (hs.pOpen q hq).front (2 + i) (by
    have hst := starP_get (b := b) hz ha
    rw [Nat.add_comm, List.getElem?_cons_succ, List.getElem?_cons_succ, List.getElem?_append_left (lt_of_get hst)]; exact hst)⟩
theorem Sat.ptrAt (hs : Sat w0 M σ w) (q : Nat) (hq : σ[q]? = some (hptrs b e A C as m)) {i : Nat} {x : X} (hz : m[i]? = some (some x)) : ∃ (g : Nat) (A0 : Option Addr) (C0 : Nat) (A1 : Option Addr) (C1 : Nat), as[i]? = some ⟨some g, A0, C0, A1, C1⟩ := by
  have hl : i < as.length := by rw [hs.ptrsLen q hq]; exact lt_of_get hz
  obtain ⟨⟨sq, A0, C0, A1, C1⟩, hsa⟩ : ∃ s, as[i]? = some s := ⟨_, List.getElem?_eq_getElem hl⟩
  obtain ⟨σ', h1⟩ := hs.pElem q hq hz hsa
  cases sq with
  | none => exact (Sat.fact (p := False) h1).elim
  | some g => exact ⟨g, A0, C0, A1, C1, hsa⟩
section
variable {i g : Nat} {x : X} {A0 A1 : Option Addr} {C0 C1 : Nat}
theorem Sat.ptrOpen (hs : Sat w0 M σ w) (q : Nat) (hq : σ[q]? = some (hptrs b e A C as m)) (hz : m[i]? = some (some x)) (ha : as[i]? = some ⟨some g, A0, C0, A1, C1⟩) : ∃ σ', Sat w0 M (hbox g b.t (b.cells ⟨some g, A0, C0, A1, C1⟩ x) :: hown b.e0 A0 C0 (b.r0 x) :: hown b.e1 A1 C1 (b.r1 x) :: σ') w := by
  obtain ⟨σ', h1⟩ := hs.pElem q hq hz ha
  exact ⟨σ', Sat.hOpen (L := [hbox g b.t (b.cells ⟨some g, A0, C0, A1, C1⟩ x), hown b.e0 A0 C0 (b.r0 x), hown b.e1 A1 C1 (b.r1 x)]) h1⟩
theorem Sat.ptrBox (hs : Sat w0 M σ w) (q : Nat) (hq : σ[q]? = some (hptrs b e A C as m)) (hz : m[i]? = some (some x)) (ha : as[i]? = some ⟨some g, A0, C0, A1, C1⟩) : ElemAt w (old w none_) (some ⟨g, 0, none⟩) 0 (b.cells ⟨some g, A0, C0, A1, C1⟩ x) := by
  obtain ⟨σ', h⟩ := hs.ptrOpen q hq hz ha
  exact h.boxAt 0 rfl
theorem Sat.ptrView0 (hs : Sat w0 M σ w) (q : Nat) (hq : σ[q]? = some (hptrs b e A C as m)) (hz : m[i]? = some (some x)) (ha : as[i]? = some ⟨some g, A0, C0, A1, C1⟩) : View w (old w none_) A0 C0 (b.r0 x) := by
  obtain ⟨σ', h⟩ := hs.ptrOpen q hq hz ha
  exact h.ownView 1 rfl
theorem Sat.ptrView1 (hs : Sat w0 M σ w) (q : Nat) (hq : σ[q]? = some (hptrs b e A C as m)) (hz : m[i]? = some (some x)) (ha : as[i]? = some ⟨some g, A0, C0, A1, C1⟩) : View w (old w none_) A1 C1 (b.r1 x) := by
  obtain ⟨σ', h⟩ := hs.ptrOpen q hq hz ha
  exact h.ownView 2 rfl
end
variable {P : Program} {n : Nat} {fs : Fr} {a : Act} {o : Oper} {v : Value} {ops : Array Oper} {rest : List Oper} {Q : Exit → Act → World → Prop}
theorem V.loadPtr (q : Nat) (hq : σ[q]? = some (hptrs b e A C as m)) {i k' : Nat} {g : Nat} {A0 A1 : Option Addr} {C0 C1 : Nat} (ha : as[i]? = some ⟨some g, A0, C0, A1, C1⟩) {t : TypeId} {x : Operand} (ho : o.op = .load t x) (hx : ev fs x = some (elemPtr A k'))
    (hk : k' = i * 1) (hag : ∀ w, (isAgg t).run P w = .ok false w) (hsz : ∀ w, (Go.sizeOf t).run P w = .ok 1 w) :
    ∀ a w, FrOk n fs a → Sat w0 M σ w → RunV P o a w (.pointer (some ⟨g, 0, none⟩)) := fun a w hf hs =>
  V.loadOwn (off := 0) 1 rfl ha ho hx hk hag hsz rfl rfl a w hf (hs.pOpen q hq)
theorem S.makePtrs (b : PBox X β0 β1) (hf : FrOk n fs a) (hs : Sat w0 M σ w) {d : Nat} (hg : gv ops fs o = some true) (hd : o.dst = some d) (hdn : Nat.blt d n = true) {t : TypeId} {x y : Operand} {z : Int} {N bytes : Nat}
    (ho : o.op = .makeSlice t x y) (hx : ev fs x = some (.int .i64 z)) (hy : ev fs y = some (.int .i64 z)) (ht : P.underlying t = some (.slice e)) (hi : TyInfo P e 1 bytes [.pointer none])
    (hmk : 0 ≤ z ∧ z * bytes ≤ 281474976710656) (hN : z.toNat = N) (h63 : z ≤ 9223372036854775807)
    (k : ∀ A a w', FrOk n ((d, .slice A (List.replicate N (none : Option X)).length N) :: fs) a → Sat w0 M (hptrs b e A N (List.replicate N (⟨none, none, 0, none, 0⟩ : Pt)) (List.replicate N none) :: σ) w' → wpList P ops Q rest a w') : wpList P ops Q (o :: rest) a w := by
  refine S.make hf hs hg hd hdn (⟨none, none, 0, none, 0⟩ : Pt) ho hx hy ht hi hmk hN h63 (fun A a w' hf hs2 => k A a w' (by simpa using hf) ?_)
  have h1 := Sat.addFact (p := (List.replicate N (⟨none, none, 0, none, 0⟩ : Pt)).length = (List.replicate N (none : Option X)).length) (by simp) (Sat.addFacts (p := (none : Option Nat) = none) rfl hs2 N)
  refine Sat.hClose (h1.perm ?_)
  have e2 : starP b (List.replicate N (none : Option X)) (List.replicate N (⟨none, none, 0, none, 0⟩ : Pt)) = List.replicate N (hfact ((none : Option Nat) = none)) := by
    unfold starP; rw [List.zipWith_replicate, Nat.min_self]; rfl
  rw [e2]
  exact List.Perm.cons _ List.perm_middle
theorem S.putPtr (q : Nat) (hf : FrOk n fs a) {g : Nat} {cs : List Value} {A0 A1 : Option Addr} {C0 C1 : Nat} {ys0 : List β0} {ys1 : List β1} (hs : Sat w0 M (hbox g b.t cs :: hown b.e0 A0 C0 ys0 :: hown b.e1 A1 C1 ys1 :: σ) w) (hg : gv ops fs o = some true) (hd : o.dst = none) {t : TypeId} {x y : Operand} {i k' : Nat} {z : Option X} (x' : X)
    (hq : σ[q]? = some (hptrs b e A C as m)) (hz : m[i]? = some z) (hcs : cs = b.cells ⟨some g, A0, C0, A1, C1⟩ x') (h0 : ys0 = b.r0 x') (h1 : ys1 = b.r1 x')
    (ho : o.op = .store t x y) (hx : ev fs x = some (elemPtr A k')) (hk : k' = i * 1) (hy : ev fs y = some (.pointer (some ⟨g, 0, none⟩))) (hsz : ∀ w, (Go.sizeOf t).run P w = .ok 1 w)
    (k : ∀ a w', FrOk n fs a → Sat w0 M (σ.set q (hptrs b e A C (as.set i ⟨some g, A0, C0, A1, C1⟩) (m.set i (some x')))) w' → wpList P ops Q rest a w') : wpList P ops Q (o :: rest) a w := by
  have hs0 := hs.pOpen (q + 3) (by simpa using hq)
  have hlen : as.length = m.length := hs0.fact
  obtain ⟨s, ha⟩ : ∃ s, as[i]? = some s := ⟨_, List.getElem?_eq_getElem (by rw [hlen]; exact lt_of_get hz)⟩
  have hst := starP_get (b := b) hz ha
  refine S.storeOwn (off := 0) 1 hf hs0 hg hd (⟨some g, A0, C0, A1, C1⟩ : Pt) [.pointer (some ⟨g, 0, none⟩)] rfl ha ho hx hk hy rfl hsz rfl (Nat.le_refl _) rfl rfl (fun a w' hf hs2 => k a w' hf ?_)
  refine Sat.unfront hq (Sat.hClose ?_)
  have e2 : starP b (m.set i (some x')) (as.set i ⟨some g, A0, C0, A1, C1⟩) = (starP b m as).set i (hall [hbox g b.t cs, hown b.e0 A0 C0 ys0, hown b.e1 A1 C1 ys1]) := by
    have := (zipWith_set' (elP b) m as i (some x') ⟨some g, A0, C0, A1, C1⟩).symm
    rw [hcs, h0, h1]; exact this
  rw [e2]
  have hs3 : Sat w0 M (hfact (as.length = m.length) :: hown e A C (as.set i ⟨some g, A0, C0, A1, C1⟩) :: (starP b m as ++ hbox g b.t cs :: hown b.e0 A0 C0 ys0 :: hown b.e1 A1 C1 ys1 :: σ.eraseIdx q)) w' := by
    have he : (hbox g b.t cs :: hown b.e0 A0 C0 ys0 :: hown b.e1 A1 C1 ys1 :: σ).eraseIdx (q + 3) = hbox g b.t cs :: hown b.e0 A0 C0 ys0 :: hown b.e1 A1 C1 ys1 :: σ.eraseIdx q := rfl
    rw [he] at hs2; exact hs2
  have hs4 : Sat w0 M ([hbox g b.t cs, hown b.e0 A0 C0 ys0, hown b.e1 A1 C1 ys1] ++ (hown e A C (as.set i ⟨some g, A0, C0, A1, C1⟩) :: (starP b m as ++ σ.eraseIdx q))) w' := by
    refine (hs3.drop).perm ?_
    have p1 : ∀ (Z L R : List HProp), (Z ++ (L ++ R)).Perm (L ++ (Z ++ R)) := fun Z L R => by
      rw [← List.append_assoc, ← List.append_assoc]; exact List.perm_append_comm.append_right R
    exact (List.Perm.cons _ (p1 (starP b m as) [hbox g b.t cs, hown b.e0 A0 C0 ys0, hown b.e1 A1 C1 ys1] (σ.eraseIdx q))).trans List.perm_middle.symm
  have hs5 := Sat.hClose hs4
  have hs6 : Sat w0 M (elP b z s :: (hown e A C (as.set i ⟨some g, A0, C0, A1, C1⟩) :: ((starP b m as).set i (hall [hbox g b.t cs, hown b.e0 A0 C0 ys0, hown b.e1 A1 C1 ys1]) ++ σ.eraseIdx q))) w' := by
    refine hs5.perm ((List.Perm.swap _ _ _).trans ?_)
    refine (List.Perm.cons _ ?_).trans (List.Perm.swap _ _ _)
    exact (star_put (starP b m as) i _ _ hst).append_right (σ.eraseIdx q)
  exact Sat.addFact (by simp [hlen]) hs6.drop
end
end Go.Proofs.Ytihjaehkdgdenaa
