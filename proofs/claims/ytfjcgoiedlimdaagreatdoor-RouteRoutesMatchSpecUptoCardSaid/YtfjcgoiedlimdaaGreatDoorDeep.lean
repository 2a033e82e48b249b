/- Chapter texts of ours, as far as the claim needs them. -/
import Derived.Test.YtfjcgoiedlimdaaGreatDoorStrs
namespace Go.Proofs.YtfjcgoiedlimdaaGreatDoor
open Go Go.RowKit
set_option linter.unusedVariables false
set_option linter.unusedSectionVars false
set_option linter.unusedSimpArgs false
structure Pt where
  q : Option Nat
  A0 : Option Addr
  C0 : Nat
  A1 : Option Addr
  C1 : Nat
instance : Flat Pt := ⟨1, Nat.one_pos, fun s => [.pointer (s.q.map fun g => ⟨g, 0, none⟩)], fun _ => rfl, fun _ v hv => by simp at hv; subst hv; rfl⟩
structure MG (X β0 β1 : Type) where
  t : TypeId
  e0 : TypeId
  e1 : TypeId
  cells : Pt → X → List Value
  r0 : X → List β0
  r1 : X → List β1
def NR {X : Type} (o : Option X) (k : X → Prop) : Prop := ∃ y, o = some y ∧ k y
def hall (L : List gW) : gW := ⟨fun w F => jB w F L (fun _ => False), fun h hb => jB.mono h (fun _ h => h) (fun _ _ h => h) (fun b hz _ => hb b hz)⟩
def hfact (p : Prop) : gW := ⟨fun _ _ => p, fun h _ => h⟩
section
variable {w w0 : World} {M : Nat → Prop} {σ L : List gW} {p : Prop}
theorem Sat.Ic (h : Sat w0 M (hall L :: σ) w) : Sat w0 M (L ++ σ) w := by
  obtain ⟨F, hp, hF, hr⟩ := h.sat
  exact ⟨h.keeps, jB.append (F := F) hp (fun b hb => (hF b hb).1) (fun _ _ hn => hn) hr⟩
theorem Sat.Eg (h : Sat w0 M (L ++ σ) w) : Sat w0 M (hall L :: σ) w := by
  obtain ⟨F, hF, hL, hσ⟩ := jB.parts h.sat
  exact ⟨h.keeps, F, hL, hF, hσ⟩
theorem Sat.fact (h : Sat w0 M (hfact p :: σ) w) : p := by
  obtain ⟨F, hp, _, _⟩ := h.sat
  exact hp
theorem Sat.Dc (hp : p) (h : Sat w0 M σ w) : Sat w0 M (hfact p :: σ) w :=
  ⟨h.keeps, fun _ => False, hp, fun _ e => e.elim, jB.mono h.sat (fun _ h => h) (fun b _ hn e => e.elim hn (fun e => e)) (fun _ _ _ => rfl)⟩
theorem Sat.Jk (hp : p) (h : Sat w0 M σ w) : ∀ N : Nat, Sat w0 M (List.replicate N (hfact p) ++ σ) w
  | 0 => h
  | N + 1 => Sat.Dc hp (Sat.Jk hp h N)
end
section
variable {X β0 β1 : Type} [Flat β0] [Flat β1]
def elP (b : MG X β0 β1) (x : Option X) (s : Pt) : gW :=
  match x, s.q with
  | none, q => hfact (q = none)
  | some _, none => hfact False
  | some x, some g => hall [hbox g b.t (b.cells s x), hown b.e0 s.A0 s.C0 (b.r0 x), hown b.e1 s.A1 s.C1 (b.r1 x)]
def yE (b : MG X β0 β1) (m : List (Option X)) (as : List Pt) : List gW := m.zipWith (elP b) as
def vP (b : MG X β0 β1) (e : TypeId) (A : Option Addr) (C : Nat) (as : List Pt) (m : List (Option X)) : gW := hall (hfact (as.length = m.length) :: hown e A C as :: yE b m as)
variable {w w0 : World} {M : Nat → Prop} {σ : List gW} {b : MG X β0 β1} {e : TypeId} {A : Option Addr} {C : Nat} {as : List Pt} {m : List (Option X)}
theorem Ij {i : Nat} {x : Option X} {s : Pt} (hz : m[i]? = some x) (ha : as[i]? = some s) : (yE b m as)[i]? = some (elP b x s) := by
  unfold yE; rw [List.getElem?_zipWith, hz, ha]
theorem Sat.Jq (hs : Sat w0 M σ w) (q : Nat) (hq : σ[q]? = some (vP b e A C as m)) : Sat w0 M (hfact (as.length = m.length) :: hown e A C as :: (yE b m as ++ σ.eraseIdx q)) w := (hs.front q hq).Ic
theorem Sat.LK (hs : Sat w0 M σ w) (q : Nat) (hq : σ[q]? = some (vP b e A C as m)) : as.length = m.length := (hs.Jq q hq).fact
theorem Sat.CG (hs : Sat w0 M σ w) (q : Nat) (hq : σ[q]? = some (vP b e A C as m)) {i : Nat} {z : Option X} (hz : m[i]? = some z) : A.isSome = true :=
  ((hs.Jq q hq).fA 1 rfl).some_ (by rw [hs.LK q hq]; exact dO hz)
theorem Sat.Pm (hs : Sat w0 M σ w) (q : Nat) (hq : σ[q]? = some (vP b e A C as m)) {i : Nat} {x : Option X} {s : Pt} (hz : m[i]? = some x) (ha : as[i]? = some s) : ∃ σ', Sat w0 M (elP b x s :: σ') w :=
  ⟨_, (hs.Jq q hq).front (2 + i) (by
    have hst := Ij (b := b) hz ha
    rw [Nat.add_comm, List.getElem?_cons_succ, List.getElem?_cons_succ, List.getElem?_append_left (dO hst)]; exact hst)⟩
theorem Sat.Pv (hs : Sat w0 M σ w) (q : Nat) (hq : σ[q]? = some (vP b e A C as m)) {i : Nat} {x : X} (hz : m[i]? = some (some x)) : ∃ (g : Nat) (A0 : Option Addr) (C0 : Nat) (A1 : Option Addr) (C1 : Nat), as[i]? = some ⟨some g, A0, C0, A1, C1⟩ := by
  have hl : i < as.length := by rw [hs.LK q hq]; exact dO hz
  obtain ⟨⟨sq, A0, C0, A1, C1⟩, hsa⟩ : ∃ s, as[i]? = some s := ⟨_, List.getElem?_eq_getElem hl⟩
  obtain ⟨σ', h1⟩ := hs.Pm q hq hz hsa
  cases sq with
  | none => exact (Sat.fact (p := False) h1).elim
  | some g => exact ⟨g, A0, C0, A1, C1, hsa⟩
section
variable {i g : Nat} {x : X} {A0 A1 : Option Addr} {C0 C1 : Nat}
theorem Sat.IA (hs : Sat w0 M σ w) (q : Nat) (hq : σ[q]? = some (vP b e A C as m)) (hz : m[i]? = some (some x)) (ha : as[i]? = some ⟨some g, A0, C0, A1, C1⟩) : ∃ σ', Sat w0 M (hbox g b.t (b.cells ⟨some g, A0, C0, A1, C1⟩ x) :: hown b.e0 A0 C0 (b.r0 x) :: hown b.e1 A1 C1 (b.r1 x) :: σ') w := by
  obtain ⟨σ', h1⟩ := hs.Pm q hq hz ha
  exact ⟨σ', Sat.Ic (L := [hbox g b.t (b.cells ⟨some g, A0, C0, A1, C1⟩ x), hown b.e0 A0 C0 (b.r0 x), hown b.e1 A1 C1 (b.r1 x)]) h1⟩
theorem Sat.KN (hs : Sat w0 M σ w) (q : Nat) (hq : σ[q]? = some (vP b e A C as m)) (hz : m[i]? = some (some x)) (ha : as[i]? = some ⟨some g, A0, C0, A1, C1⟩) : gU w (old w none_) (some ⟨g, 0, none⟩) 0 (b.cells ⟨some g, A0, C0, A1, C1⟩ x) := by
  obtain ⟨σ', h⟩ := hs.IA q hq hz ha
  exact h.vT 0 rfl
theorem Sat.Gl (hs : Sat w0 M σ w) (q : Nat) (hq : σ[q]? = some (vP b e A C as m)) (hz : m[i]? = some (some x)) (ha : as[i]? = some ⟨some g, A0, C0, A1, C1⟩) : View w (old w none_) A0 C0 (b.r0 x) := by
  obtain ⟨σ', h⟩ := hs.IA q hq hz ha
  exact h.fA 1 rfl
theorem Sat.FY (hs : Sat w0 M σ w) (q : Nat) (hq : σ[q]? = some (vP b e A C as m)) (hz : m[i]? = some (some x)) (ha : as[i]? = some ⟨some g, A0, C0, A1, C1⟩) : View w (old w none_) A1 C1 (b.r1 x) := by
  obtain ⟨σ', h⟩ := hs.IA q hq hz ha
  exact h.fA 2 rfl
end
variable {P : Program} {n : Nat} {fs : Fr} {a : Act} {o : Oper} {v : Value} {ops : Array Oper} {rest : List Oper} {Q : Exit → Act → World → Prop}
theorem V.IX (q : Nat) (hq : σ[q]? = some (vP b e A C as m)) {i k' : Nat} {g : Nat} {A0 A1 : Option Addr} {C0 C1 : Nat} (ha : as[i]? = some ⟨some g, A0, C0, A1, C1⟩) {t : TypeId} {x : Operand} (ho : o.op = .load t x) (hx : ev fs x = some (eP A k'))
    (hk : k' = i * 1) (hag : ∀ w, (isAgg t).run P w = .ok false w) (hsz : ∀ w, (Go.sizeOf t).run P w = .ok 1 w) :
    ∀ a w, eU n fs a → Sat w0 M σ w → jd P o a w (.pointer (some ⟨g, 0, none⟩)) := fun a w hf hs =>
  V.iD (off := 0) 1 rfl ha ho hx hk hag hsz rfl rfl a w hf (hs.Jq q hq)
theorem S.NZ (b : MG X β0 β1) (hf : eU n fs a) (hs : Sat w0 M σ w) {d : Nat} (hg : gv ops fs o = some true) (hd : o.dst = some d) (hdn : Nat.blt d n = true) {t : TypeId} {x y : Operand} {z : Int} {N bytes : Nat}
    (ho : o.op = .makeSlice t x y) (hx : ev fs x = some (.int .i64 z)) (hy : ev fs y = some (.int .i64 z)) (ht : P.underlying t = some (.slice e)) (hi : pX P e 1 bytes [.pointer none])
    (hmk : 0 ≤ z ∧ z * bytes ≤ 281474976710656) (hN : z.toNat = N) (h63 : z ≤ 9223372036854775807)
    (k : ∀ A a w', eU n ((d, .slice A (List.replicate N (none : Option X)).length N) :: fs) a → Sat w0 M (vP b e A N (List.replicate N (⟨none, none, 0, none, 0⟩ : Pt)) (List.replicate N none) :: σ) w' → wpList P ops Q rest a w') : wpList P ops Q (o :: rest) a w := by
  refine S.make hf hs hg hd hdn (⟨none, none, 0, none, 0⟩ : Pt) ho hx hy ht hi hmk hN h63 (fun A a w' hf hs2 => k A a w' (by simpa using hf) ?_)
  have h1 := Sat.Dc (p := (List.replicate N (⟨none, none, 0, none, 0⟩ : Pt)).length = (List.replicate N (none : Option X)).length) (by simp) (Sat.Jk (p := (none : Option Nat) = none) rfl hs2 N)
  refine Sat.Eg (h1.perm ?_)
  have e2 : yE b (List.replicate N (none : Option X)) (List.replicate N (⟨none, none, 0, none, 0⟩ : Pt)) = List.replicate N (hfact ((none : Option Nat) = none)) := by
    unfold yE; rw [List.zipWith_replicate, Nat.min_self]; rfl
  rw [e2]
  exact List.Perm.cons _ List.perm_middle
theorem S.PS (q : Nat) (hf : eU n fs a) {g : Nat} {cs : List Value} {A0 A1 : Option Addr} {C0 C1 : Nat} {ys0 : List β0} {ys1 : List β1} (hs : Sat w0 M (hbox g b.t cs :: hown b.e0 A0 C0 ys0 :: hown b.e1 A1 C1 ys1 :: σ) w) (hg : gv ops fs o = some true) (hd : o.dst = none) {t : TypeId} {x y : Operand} {i k' : Nat} {z : Option X} (x' : X)
    (hq : σ[q]? = some (vP b e A C as m)) (hz : m[i]? = some z) (hcs : cs = b.cells ⟨some g, A0, C0, A1, C1⟩ x') (h0 : ys0 = b.r0 x') (h1 : ys1 = b.r1 x')
    (ho : o.op = .store t x y) (hx : ev fs x = some (eP A k')) (hk : k' = i * 1) (hy : ev fs y = some (.pointer (some ⟨g, 0, none⟩))) (hsz : ∀ w, (Go.sizeOf t).run P w = .ok 1 w)
    (k : ∀ a w', eU n fs a → Sat w0 M (σ.set q (vP b e A C (as.set i ⟨some g, A0, C0, A1, C1⟩) (m.set i (some x')))) w' → wpList P ops Q rest a w') : wpList P ops Q (o :: rest) a w := by
  have hs0 := hs.Jq (q + 3) (by simpa using hq)
  have hlen : as.length = m.length := hs0.fact
  obtain ⟨s, ha⟩ : ∃ s, as[i]? = some s := ⟨_, List.getElem?_eq_getElem (by rw [hlen]; exact dO hz)⟩
  have hst := Ij (b := b) hz ha
  refine S.je (off := 0) 1 hf hs0 hg hd (⟨some g, A0, C0, A1, C1⟩ : Pt) [.pointer (some ⟨g, 0, none⟩)] rfl ha ho hx hk hy rfl hsz rfl (Nat.le_refl _) rfl rfl (fun a w' hf hs2 => k a w' hf ?_)
  refine Sat.Dt hq (Sat.Eg ?_)
  have e2 : yE b (m.set i (some x')) (as.set i ⟨some g, A0, C0, A1, C1⟩) = (yE b m as).set i (hall [hbox g b.t cs, hown b.e0 A0 C0 ys0, hown b.e1 A1 C1 ys1]) := by
    have := (tV (elP b) m as i (some x') ⟨some g, A0, C0, A1, C1⟩).symm
    rw [hcs, h0, h1]; exact this
  rw [e2]
  have hs3 : Sat w0 M (hfact (as.length = m.length) :: hown e A C (as.set i ⟨some g, A0, C0, A1, C1⟩) :: (yE b m as ++ hbox g b.t cs :: hown b.e0 A0 C0 ys0 :: hown b.e1 A1 C1 ys1 :: σ.eraseIdx q)) w' := by
    have he : (hbox g b.t cs :: hown b.e0 A0 C0 ys0 :: hown b.e1 A1 C1 ys1 :: σ).eraseIdx (q + 3) = hbox g b.t cs :: hown b.e0 A0 C0 ys0 :: hown b.e1 A1 C1 ys1 :: σ.eraseIdx q := rfl
    rw [he] at hs2; exact hs2
  have hs4 : Sat w0 M ([hbox g b.t cs, hown b.e0 A0 C0 ys0, hown b.e1 A1 C1 ys1] ++ (hown e A C (as.set i ⟨some g, A0, C0, A1, C1⟩) :: (yE b m as ++ σ.eraseIdx q))) w' := by
    refine (hs3.drop).perm ?_
    have p1 : ∀ (Z L R : List gW), (Z ++ (L ++ R)).Perm (L ++ (Z ++ R)) := fun Z L R => by
      rw [← List.append_assoc, ← List.append_assoc]; exact List.perm_append_comm.append_right R
    exact (List.Perm.cons _ (p1 (yE b m as) [hbox g b.t cs, hown b.e0 A0 C0 ys0, hown b.e1 A1 C1 ys1] (σ.eraseIdx q))).trans List.perm_middle.symm
  have hs5 := Sat.Eg hs4
  have hs6 : Sat w0 M (elP b z s :: (hown e A C (as.set i ⟨some g, A0, C0, A1, C1⟩) :: ((yE b m as).set i (hall [hbox g b.t cs, hown b.e0 A0 C0 ys0, hown b.e1 A1 C1 ys1]) ++ σ.eraseIdx q))) w' := by
    refine hs5.perm ((List.Perm.swap _ _ _).trans ?_)
    refine (List.Perm.cons _ ?_).trans (List.Perm.swap _ _ _)
    exact (CS (yE b m as) i _ _ hst).append_right (σ.eraseIdx q)
  exact Sat.Dc (by simp [hlen]) hs6.drop
end
end Go.Proofs.YtfjcgoiedlimdaaGreatDoor
namespace Go.Proofs.YtfjcgoiedlimdaaGreatDoor
open Go Go.RowKit
set_option linter.unusedVariables false
set_option linter.unusedSectionVars false
set_option linter.unusedSimpArgs false
abbrev Dp := Option Addr × Nat × List (Option Addr × Nat)
class qY (α : Type) (β T : outParam Type) [Rep α] [Rep β] [Flat T] where
  inner : α → List β
  sh : α → Option Addr → Nat → T
  rep : ∀ {w F A C z}, View w F A C (inner z) → Rep.rd w F (Flat.enc (sh z A C)) z
  same : Rep.sz α = Flat.sz T
instance O9 {β : Type} [Rep β] : qY (List β) β Sl := ⟨fun x => x, fun x A C => ⟨A, x.length, C⟩, fun h => ⟨_, _, rfl, h⟩, rfl⟩
section
variable {α β γ T U : Type} [Rep α] [Rep β] [Flat γ] [Flat T] [Flat U] [Row1 β γ U] [qY α β T]
def vN (zs : List α) (as : List Dp) : List T := zs.zipWith (fun z a => qY.sh z a.1 a.2.1) as
def EI (e' e'' : TypeId) (z : α) (a : Dp) : gW := hrows e' e'' a.1 a.2.1 a.2.2 (qY.inner z)
def vI (e' e'' : TypeId) (zs : List α) (as : List Dp) : List gW := zs.zipWith (EI e' e'') as
def zD (e e' e'' : TypeId) (A : Option Addr) (C : Nat) (as : List Dp) (zs : List α) (L : List gW) : gW := hall (hfact (as.length = zs.length) :: hown e A C (vN zs as) :: L)
def iP (e e' e'' : TypeId) (A : Option Addr) (C : Nat) (as : List Dp) (zs : List α) : gW := zD e e' e'' A C as zs (vI e' e'' zs as)
def rX (e e' e'' : TypeId) (A : Option Addr) (C : Nat) (as : List Dp) (zs : List α) (k : Nat) : gW := zD e e' e'' A C as zs ((vI e' e'' zs as).drop k)
variable {w w0 : World} {M : Nat → Prop} {σ L : List gW} {p q : gW} {e e' e'' : TypeId} {A : Option Addr} {C : Nat} {zs : List α} {as : List Dp}
theorem AB {i : Nat} {z : α} {a : Dp} (hz : zs[i]? = some z) (ha : as[i]? = some a) : (vN zs as)[i]? = some (qY.sh z a.1 a.2.1) := by
  unfold vN; rw [List.getElem?_zipWith, hz, ha]
theorem AX {i : Nat} {z : α} {a : Dp} (hz : zs[i]? = some z) (ha : as[i]? = some a) : (vI e' e'' zs as)[i]? = some (EI e' e'' z a) := by
  unfold vI; rw [List.getElem?_zipWith, hz, ha]
theorem Dv (h : as.length = zs.length) : (vN zs as).length = zs.length := by unfold vN; rw [List.length_zipWith]; omega
theorem Sat.yD (h : Sat w0 M (zD e e' e'' A C as zs L :: σ) w) : Sat w0 M (hown e A C (vN zs as) :: (L ++ σ)) w ∧ as.length = zs.length := ⟨h.Ic.drop, h.Ic.fact⟩
theorem Sat.Bd (hl : as.length = zs.length) (h : Sat w0 M (hown e A C (vN zs as) :: (L ++ σ)) w) : Sat w0 M (zD e e' e'' A C as zs L :: σ) w := Sat.Eg (Sat.Dc hl h)
theorem Sat.dAt (hl : as.length = zs.length) {i : Nat} {z : α} (hz : zs[i]? = some z) : ∃ (B : Option Addr) (D : Nat) (Bs : List (Option Addr × Nat)), as[i]? = some (B, D, Bs) :=
  ⟨_, _, _, List.getElem?_eq_getElem (by rw [hl]; exact dO hz)⟩
theorem Sat.Ou (hs : Sat w0 M σ w) (q : Nat) (hq : σ[q]? = some (zD e e' e'' A C as zs L)) : as.length = zs.length := (hs.front q hq).yD.2
theorem Sat.BO (hs : Sat w0 M σ w) (q : Nat) (hq : σ[q]? = some (zD e e' e'' A C as zs L)) {i : Nat} {z : α} (hz : zs[i]? = some z) : ∃ (B : Option Addr) (D : Nat) (Bs : List (Option Addr × Nat)), as[i]? = some (B, D, Bs) := Sat.dAt (hs.Ou q hq) hz
theorem Sat.Om (hs : Sat w0 M σ w) (q : Nat) (hq : σ[q]? = some (zD e e' e'' A C as zs L)) : zs.length ≤ C ∧ C ≤ maxLen := by
  obtain ⟨h, hl⟩ := (hs.front q hq).yD
  have := h.fA 0 rfl
  have h2 := this.cap
  rw [Dv hl] at h2
  exact ⟨h2, this.most⟩
theorem Sat.xw (hs : Sat w0 M σ w) (q : Nat) (hq : σ[q]? = some (zD e e' e'' A C as zs L)) {i : Nat} {z : α} (hz : zs[i]? = some z) : A.isSome = true := by
  obtain ⟨hs1, hl⟩ := (hs.front q hq).yD
  obtain ⟨B, D, Bs, ha⟩ := Sat.dAt hl hz
  exact (hs1.fA 0 rfl).some_ (dO (AB (T := T) hz ha))
section
variable {i : Nat} {z : α} {B : Option Addr} {D : Nat} {Bs : List (Option Addr × Nat)}
theorem Sat.JA (hs : Sat w0 M σ w) (q : Nat) (hq : σ[q]? = some (iP e e' e'' A C as zs)) (hz : zs[i]? = some z) (ha : as[i]? = some (B, D, Bs)) : ∃ σ', Sat w0 M (hrows e' e'' B D Bs (qY.inner z) :: σ') w := by
  have h := (hs.front q hq).yD.1
  have hst := AX (e' := e') (e'' := e'') hz ha
  exact ⟨_, h.front (1 + i) (by rw [Nat.add_comm, List.getElem?_cons_succ, List.getElem?_append_left (dO hst)]; exact hst)⟩
theorem Sat.Cm (hs : Sat w0 M σ w) (q : Nat) (hq : σ[q]? = some (iP e e' e'' A C as zs)) (hz : zs[i]? = some z) (ha : as[i]? = some (B, D, Bs)) : View w (old w none_) B D (qY.inner z) := by
  obtain ⟨σ', h⟩ := hs.JA q hq hz ha
  exact h.Og 0 rfl
theorem Sat.PZ (hs : Sat w0 M σ w) (q : Nat) (hq : σ[q]? = some (iP e e' e'' A C as zs)) (hz : zs[i]? = some z) (ha : as[i]? = some (B, D, Bs)) {j : Nat} {y : β} (hy : (qY.inner z)[j]? = some y) : ∃ (B2 : Option Addr) (D2 : Nat), Bs[j]? = some (B2, D2) := by
  obtain ⟨σ', h⟩ := hs.JA q hq hz ha
  exact h.rowAt 0 rfl hy
theorem Sat.JE (hs : Sat w0 M σ w) (q : Nat) (hq : σ[q]? = some (iP e e' e'' A C as zs)) (hz : zs[i]? = some z) (ha : as[i]? = some (B, D, Bs)) {j : Nat} {y : β} (hy : (qY.inner z)[j]? = some y) {B2 : Option Addr} {D2 : Nat} (hb : Bs[j]? = some (B2, D2)) : View w (old w none_) B2 D2 (Row1.inner y) := by
  obtain ⟨σ', h⟩ := hs.JA q hq hz ha
  exact h.Fv 0 rfl hy hb
end
theorem Sat.H6 (hs : Sat w0 M σ w) (q : Nat) (hq : σ[q]? = some (iP e e' e'' A C as zs)) : View w (old w none_) A C zs := by
  obtain ⟨h1, h2⟩ := hs.Om q hq
  refine ⟨h1, h2, fun i z hz => ?_⟩
  obtain ⟨B, D, Bs, ha⟩ := hs.BO q hq hz
  have hv := hs.Cm q hq hz ha
  have := ((hs.front q hq).yD.1.fA 0 rfl).flat (AB hz ha)
  exact ⟨_, by rw [qY.same]; exact this, qY.rep hv⟩
variable {P : Program} {n : Nat} {fs : Fr} {a : Act} {o : Oper} {v : Value} {ops : Array Oper} {rest : List Oper} {Q : Exit → Act → World → Prop}
theorem V.AQ (q : Nat) (hq : σ[q]? = some (zD e e' e'' A C as zs L)) {i k' off m : Nat} {z : α} {B : Option Addr} {D : Nat} {Bs : List (Option Addr × Nat)} (hz : zs[i]? = some z) (ha : as[i]? = some (B, D, Bs)) {t : TypeId} {x : Operand} {agg : Bool} (ho : o.op = .load t x) (hx : ev fs x = some (eP A k'))
    (hk : k' = i * Flat.sz T + off) (hag : ∀ w, (isAgg t).run P w = .ok agg w) (hsz : ∀ w, (Go.sizeOf t).run P w = .ok m w) (hl : (((Flat.enc (qY.sh z B D)).drop off).take m).length = m) (hv : mkv agg (((Flat.enc (qY.sh z B D)).drop off).take m) = some v) :
    ∀ a w, eU n fs a → Sat w0 M σ w → jd P o a w v := fun a w hf hs =>
  V.iD 0 rfl (AB hz ha) ho hx hk hag hsz hl hv a w hf (hs.front q hq).yD.1
theorem V.N8 (q : Nat) (hq : σ[q]? = some (iP e e' e'' A C as zs)) {i j k' off m : Nat} {z : α} {B : Option Addr} {D : Nat} {Bs : List (Option Addr × Nat)} (hz : zs[i]? = some z) (ha : as[i]? = some (B, D, Bs)) {y : β} (hy : (qY.inner z)[j]? = some y) {B2 : Option Addr} {D2 : Nat} (hb : Bs[j]? = some (B2, D2)) {t : TypeId} {x : Operand} {agg : Bool} (ho : o.op = .load t x) (hx : ev fs x = some (eP B k'))
    (hk : k' = j * Flat.sz U + off) (hag : ∀ w, (isAgg t).run P w = .ok agg w) (hsz : ∀ w, (Go.sizeOf t).run P w = .ok m w) (hl : (((Flat.enc (Row1.sh y B2 D2)).drop off).take m).length = m) (hv : mkv agg (((Flat.enc (Row1.sh y B2 D2)).drop off).take m) = some v) :
    ∀ a w, eU n fs a → Sat w0 M σ w → jd P o a w v := fun a w hf hs => by
  obtain ⟨σ', h⟩ := hs.JA q hq hz ha
  exact V.Nz 0 rfl hy hb ho hx hk hag hsz hl hv a w hf h
theorem V.KQ (q : Nat) (hq : σ[q]? = some (iP e e' e'' A C as zs)) {i j l k' off m : Nat} {z : α} {B : Option Addr} {D : Nat} {Bs : List (Option Addr × Nat)} (hz : zs[i]? = some z) (ha : as[i]? = some (B, D, Bs)) {y : β} (hy : (qY.inner z)[j]? = some y) {B2 : Option Addr} {D2 : Nat} (hb : Bs[j]? = some (B2, D2)) {u : γ} (hu : (Row1.inner y)[l]? = some u) {t : TypeId} {x : Operand} {agg : Bool} (ho : o.op = .load t x) (hx : ev fs x = some (eP B2 k'))
    (hk : k' = l * Flat.sz γ + off) (hag : ∀ w, (isAgg t).run P w = .ok agg w) (hsz : ∀ w, (Go.sizeOf t).run P w = .ok m w) (hl : (((Flat.enc u).drop off).take m).length = m) (hv : mkv agg (((Flat.enc u).drop off).take m) = some v) :
    ∀ a w, eU n fs a → Sat w0 M σ w → jd P o a w v := fun a w hf hs => by
  obtain ⟨σ', h⟩ := hs.JA q hq hz ha
  exact V.Ib 0 rfl hy hb hu ho hx hk hag hsz hl hv a w hf h
theorem S.LD (q : Nat) (hf : eU n fs a) {B : Option Addr} {D : Nat} {Bs : List (Option Addr × Nat)} {ys : List β} (hs : Sat w0 M (hrows e' e'' B D Bs ys :: σ) w) (hg : gv ops fs o = some true) (hd : o.dst = none) {t : TypeId} {x y : Operand} {i k' off m : Nat} {z : α} (z' : α) {B0 : Option Addr} {D0 : Nat} {Bs0 : List (Option Addr × Nat)} (us : List Value)
    (hq : σ[q]? = some (iP e e' e'' A C as zs)) (hz : zs[i]? = some z) (ha : as[i]? = some (B0, D0, Bs0)) (hz' : qY.inner z' = ys)
    (ho : o.op = .store t x y) (hx : ev fs x = some (eP A k')) (hk : k' = i * Flat.sz T + off) (hy : ev fs y = some v) (hv : v.cells = us.toArray)
    (hsz : ∀ w, (Go.sizeOf t).run P w = .ok m w) (hl : us.length = m) (hfit : off + m ≤ Flat.sz T) (h1 : us.all (·.oneCell') = true) (hvs : (Flat.enc (qY.sh z B0 D0)).take off ++ us ++ (Flat.enc (qY.sh z B0 D0)).drop (off + m) = Flat.enc (qY.sh z' B D))
    (k : ∀ a w', eU n fs a → Sat w0 M (σ.set q (iP e e' e'' A C (as.set i (B, D, Bs)) (zs.set i z'))) w' → wpList P ops Q rest a w') : wpList P ops Q (o :: rest) a w := by
  have hs0 : Sat w0 M (iP e e' e'' A C as zs :: hrows e' e'' B D Bs ys :: σ.eraseIdx q) w := (hs.front (q + 1) (by simpa using hq)).perm (by simp)
  obtain ⟨hs1, hlen⟩ := hs0.yD
  have hst := AX (e' := e') (e'' := e'') hz ha
  refine S.je 0 hf hs1 hg hd (qY.sh z' B D) us rfl (AB hz ha) ho hx hk hy hv hsz hl hfit h1 hvs (fun a w' hf hs2 => k a w' hf ?_)
  refine Sat.Dt hq (Sat.Bd (by simp [hlen]) ?_)
  have e1 : vN (zs.set i z') (as.set i (B, D, Bs)) = (vN zs as).set i (qY.sh z' B D) := (tV (fun z (a : Dp) => qY.sh z a.1 a.2.1) zs as i z' (B, D, Bs)).symm
  have e2 : vI e' e'' (zs.set i z') (as.set i (B, D, Bs)) = (vI e' e'' zs as).set i (hrows e' e'' B D Bs ys) := by
    have := (tV (EI e' e'') zs as i z' (B, D, Bs)).symm
    rw [← hz']; exact this
  rw [e1, e2]
  have hs3 : Sat w0 M (hown e A C ((vN zs as).set i (qY.sh z' B D)) :: (vI e' e'' zs as ++ hrows e' e'' B D Bs ys :: σ.eraseIdx q)) w' := hs2
  have hp : (hown e A C ((vN zs as).set i (qY.sh z' B D)) :: (vI e' e'' zs as ++ hrows e' e'' B D Bs ys :: σ.eraseIdx q)).Perm (EI e' e'' z (B0, D0, Bs0) :: (hown e A C ((vN zs as).set i (qY.sh z' B D)) :: ((vI e' e'' zs as).set i (hrows e' e'' B D Bs ys) ++ σ.eraseIdx q))) := by
    refine (List.Perm.cons _ (List.perm_middle)).trans ?_
    refine (List.Perm.cons _ ?_).trans (List.Perm.swap _ _ _)
    exact (CS (vI e' e'' zs as) i (hrows e' e'' B D Bs ys) _ hst).append_right (σ.eraseIdx q)
  exact (hs3.perm hp).drop
theorem Sat.Bc (hs : Sat w0 M σ w) (q : Nat) (hq : σ[q]? = some (iP e e' e'' A C as zs)) : Sat w0 M (σ.set q (rX e e' e'' A C as zs 0)) w := by
  have e1 : rX e e' e'' A C as zs 0 = iP e e' e'' A C as zs := rfl
  rw [e1, set_self σ q _ hq]; exact hs
theorem Sat.MH (hs : Sat w0 M σ w) (q : Nat) {k : Nat} (hq : σ[q]? = some (rX e e' e'' A C as zs k)) {z : α} (hz : zs[k]? = some z) : Sat w0 M (σ.set q (rX e e' e'' A C as zs (k + 1))) w := by
  obtain ⟨hs1, hlen⟩ := (hs.front q hq).yD
  obtain ⟨B, D, Bs, ha⟩ := Sat.dAt hlen hz
  rw [yA _ _ _ (AX (e' := e') (e'' := e'') hz ha)] at hs1
  exact Sat.Qb hq (Sat.Bd (e' := e') (e'' := e'') hlen ((hs1.perm (List.Perm.swap _ _ _)).drop))
theorem Sat.AA (hs : Sat w0 M σ w) (q : Nat) {k : Nat} (hq : σ[q]? = some (rX e e' e'' A C as zs k)) {z : α} {B : Option Addr} {D : Nat} {Bs : List (Option Addr × Nat)} (hz : zs[k]? = some z) (ha : as[k]? = some (B, D, Bs)) : Sat w0 M (hrows e' e'' B D Bs (qY.inner z) :: σ.set q (rX e e' e'' A C as zs (k + 1))) w := by
  obtain ⟨hs1, hlen⟩ := (hs.front q hq).yD
  rw [yA _ _ _ (AX (e' := e') (e'' := e'') hz ha)] at hs1
  have hp : (hown e A C (vN zs as) :: (EI e' e'' z (B, D, Bs) :: (vI e' e'' zs as).drop (k + 1) ++ σ.eraseIdx q)).Perm (hown e A C (vN zs as) :: ((vI e' e'' zs as).drop (k + 1) ++ EI e' e'' z (B, D, Bs) :: σ.eraseIdx q)) :=
    List.Perm.cons _ List.perm_middle.symm
  have h2 := Sat.Bd (e' := e') (e'' := e'') hlen (hs1.perm hp)
  have h3 : Sat w0 M (hrows e' e'' B D Bs (qY.inner z) :: rX e e' e'' A C as zs (k + 1) :: σ.eraseIdx q) w := h2.perm (List.Perm.swap _ _ _)
  refine h3.perm (List.Perm.cons _ ?_)
  have := uK q (σ.set q (rX e e' e'' A C as zs (k + 1))) _ (getElem?_set_self' σ q _ _ hq)
  rw [eraseIdx_set] at this
  exact this.symm
theorem Sat.rE (hs : Sat w0 M σ w) (e e' e'' : TypeId) : Sat w0 M (iP e e' e'' none 0 ([] : List Dp) ([] : List α) :: σ) w :=
  Sat.Bd rfl (hs.rM (α := T) e)
theorem Sat.PD (h : Sat w0 M σ w) {z : α} (hz : qY.inner z = []) (e' e'' : TypeId) : ∀ N : Nat, Sat w0 M (List.replicate N (EI e' e'' z (none, 0, [])) ++ σ) w
  | 0 => h
  | N + 1 => by
    have h1 := Sat.CY (α := β) (Sat.PD h hz e' e'' N) e' e''
    rw [← hz] at h1
    exact h1
theorem S.Ef (hf : eU n fs a) (hs : Sat w0 M σ w) {d : Nat} (hg : gv ops fs o = some true) (hd : o.dst = some d) (hdn : Nat.blt d n = true) (zero : α) {t : TypeId} {x y : Operand} {z : Int} {N bytes : Nat} (e' e'' : TypeId)
    (hz0 : qY.inner zero = []) (ho : o.op = .makeSlice t x y) (hx : ev fs x = some (.int .i64 z)) (hy : ev fs y = some (.int .i64 z)) (ht : P.underlying t = some (.slice e)) (hi : pX P e (Flat.sz T) bytes (Flat.enc (qY.sh zero none 0)))
    (hmk : 0 ≤ z ∧ z * bytes ≤ 281474976710656) (hN : z.toNat = N) (h63 : z ≤ 9223372036854775807)
    (k : ∀ A a w', eU n ((d, .slice A (List.replicate N zero).length N) :: fs) a → Sat w0 M (iP e e' e'' A N (List.replicate N ((none, 0, []) : Dp)) (List.replicate N zero) :: σ) w' → wpList P ops Q rest a w') : wpList P ops Q (o :: rest) a w := by
  refine S.make hf hs hg hd hdn (qY.sh zero none 0) ho hx hy ht hi hmk hN h63 (fun A a w' hf hs2 => k A a w' (by simpa using hf) ?_)
  refine Sat.Bd (by simp) ?_
  have e1 : vN (List.replicate N zero) (List.replicate N ((none, 0, []) : Dp)) = List.replicate N (qY.sh zero none 0) := by unfold vN; simp
  have e2 : vI e' e'' (List.replicate N zero) (List.replicate N ((none, 0, []) : Dp)) = List.replicate N (EI e' e'' zero (none, 0, [])) := by unfold vI; simp
  rw [e1, e2]
  exact (Sat.PD hs2 hz0 e' e'' N).perm List.perm_middle
theorem S.zC (q : Nat) (hf : eU n fs a) {B : Option Addr} {D : Nat} {Bs : List (Option Addr × Nat)} {ys : List β} (hs : Sat w0 M (hrows e' e'' B D Bs ys :: σ) w) {d : Nat} (hg : gv ops fs o = some true) (hd : o.dst = some d) (hdn : Nat.blt d n = true) (z : α) (hz : qY.inner z = ys) {x y : Operand} {t : TypeId} {A2 : Option Addr} {C2 bytes : Nat} {zc : List Value}
    (hq : σ[q]? = some (iP e e' e'' A C as zs)) (ho : o.op = .call ⟨.builtin .append, #[x, y], #[t, t]⟩) (hx : ev fs x = some (.slice A zs.length C)) (hy : ev fs y = some (.slice A2 1 C2)) (ht : P.underlying t = some (.slice e)) (hi : pX P e (Flat.sz T) bytes zc) (hzc : zc.length = Flat.sz T) (hroom : room (zs ++ [z]).length bytes)
    (hA2 : A2.isSome = true) (hv : View w (old w none_) A2 C2 [qY.sh z B D])
    (k : ∀ A' C' a w', eU n ((d, .slice A' (zs ++ [z]).length C') :: fs) a → Sat w0 M (σ.set q (iP e e' e'' A' C' (as ++ [(B, D, Bs)]) (zs ++ [z]))) w' → wpList P ops Q rest a w') : wpList P ops Q (o :: rest) a w := by
  have hs0 : Sat w0 M (iP e e' e'' A C as zs :: hrows e' e'' B D Bs ys :: σ.eraseIdx q) w := (hs.front (q + 1) (by simpa using hq)).perm (by simp)
  obtain ⟨hs1, hlen⟩ := hs0.yD
  have hsl := Dv (T := T) hlen
  refine S.iU 0 hf hs1 hg hd hdn rfl ho (by rw [hsl]; exact hx) hy ht hi hzc (by rw [List.length_append, hsl]; simpa using hroom) hA2 hv (fun A' C' a w' hf hs2 => k A' C' a w' (by rw [List.length_append, hsl] at hf; simpa using hf) ?_)
  refine Sat.Dt hq (Sat.Bd (by simp [hlen]) ?_)
  have e1 : vN (zs ++ [z]) (as ++ [(B, D, Bs)]) = vN zs as ++ [qY.sh z B D] := by unfold vN; rw [List.zipWith_append hlen.symm]; rfl
  have e2 : vI e' e'' (zs ++ [z]) (as ++ [(B, D, Bs)]) = vI e' e'' zs as ++ [hrows e' e'' B D Bs ys] := by unfold vI; rw [List.zipWith_append hlen.symm, ← hz]; rfl
  rw [e1, e2, List.append_assoc]
  exact hs2
end
end Go.Proofs.YtfjcgoiedlimdaaGreatDoor
