/- Chapter texts of ours, as far as the claim needs them. -/
import Derived.Test.YtfjcgoiedlimdaaGreatDoorOwn
namespace Go.Proofs.YtfjcgoiedlimdaaGreatDoor
open Go Go.RowKit
set_option linter.unusedVariables false
set_option linter.unusedSectionVars false
set_option linter.unusedSimpArgs false
structure Sl where
  a : Option Addr
  n : Nat
  c : Nat
instance : Flat Sl := ⟨1, Nat.one_pos, fun s => [.slice s.a s.n s.c], fun _ => rfl, fun _ v hv => by simp at hv; subst hv; rfl⟩
class Row1 (α : Type) (β T : outParam Type) [Rep α] [Flat β] [Flat T] where
  inner : α → List β
  sh : α → Option Addr → Nat → T
  rep : ∀ {w F A C z}, View w F A C (inner z) → Rep.rd w F (Flat.enc (sh z A C)) z
  same : Rep.sz α = Flat.sz T
instance O0 {β : Type} [Flat β] : Row1 (List β) β Sl := ⟨fun x => x, fun x A C => ⟨A, x.length, C⟩, fun h => ⟨_, _, rfl, h⟩, rfl⟩
section
variable {α β T : Type} [Rep α] [Flat β] [Flat T] [Row1 α β T]
def Bl (zs : List α) (as : List (Option Addr × Nat)) : List T := zs.zipWith (fun z a => Row1.sh z a.1 a.2) as
def zG (e' : TypeId) (zs : List α) (as : List (Option Addr × Nat)) : List gW := zs.zipWith (fun z a => hown e' a.1 a.2 (Row1.inner z)) as
def KH (e e' : TypeId) (A : Option Addr) (C : Nat) (as : List (Option Addr × Nat)) (zs : List α) (L : List gW) : gW :=
  ⟨fun w F => as.length = zs.length ∧ ∃ F1 : Nat → Prop, (hown e A C (Bl zs as)).holds w F1 ∧ (∀ b, F1 b → F b) ∧ jB w F L F1,
    fun ⟨hl, F1, h1, h2, h3⟩ hb => ⟨hl, F1, (hown e A C (Bl zs as)).loc h1 (fun b h => hb b (h2 b h)), h2, jB.mono h3 (fun _ h => h) (fun _ _ h => h) (fun b hz _ => hb b hz)⟩⟩
def hrows (e e' : TypeId) (A : Option Addr) (C : Nat) (as : List (Option Addr × Nat)) (zs : List α) : gW := KH e e' A C as zs (zG e' zs as)
theorem Gt {zs : List α} {as : List (Option Addr × Nat)} {i : Nat} {z : α} {a : Option Addr × Nat} (hz : zs[i]? = some z) (ha : as[i]? = some a) : (Bl zs as)[i]? = some (Row1.sh z a.1 a.2) := by
  unfold Bl; rw [List.getElem?_zipWith, hz, ha]
theorem yM {e' : TypeId} {zs : List α} {as : List (Option Addr × Nat)} {i : Nat} {z : α} {a : Option Addr × Nat} (hz : zs[i]? = some z) (ha : as[i]? = some a) : (zG e' zs as)[i]? = some (hown e' a.1 a.2 (Row1.inner z)) := by
  unfold zG; rw [List.getElem?_zipWith, hz, ha]
theorem tV {X Y Z : Type} (f : X → Y → Z) : ∀ (xs : List X) (ys : List Y) (i : Nat) (x : X) (y : Y), (xs.zipWith f ys).set i (f x y) = (xs.set i x).zipWith f (ys.set i y)
  | [], _, i, _, _ => by simp
  | _ :: _, [], i, _, _ => by cases i <;> simp
  | _ :: _, _ :: _, 0, _, _ => by simp
  | _ :: xs, _ :: ys, i + 1, x, y => by simp [tV f xs ys i x y]
theorem EO {zs : List α} {as : List (Option Addr × Nat)} (h : as.length = zs.length) : (Bl zs as).length = zs.length := by unfold Bl; rw [List.length_zipWith]; omega
theorem set_self {X : Type} : ∀ (l : List X) (i : Nat) (x : X), l[i]? = some x → l.set i x = l
  | [], i, x, h => by simp
  | y :: l, 0, x, h => by simp at h; simp [h]
  | y :: l, i + 1, x, h => by simp at h; simp [set_self l i x h]
variable {w w0 : World} {M : Nat → Prop} {σ L : List gW} {p q : gW} {e e' : TypeId} {A : Option Addr} {C : Nat} {zs : List α} {as : List (Option Addr × Nat)}
theorem jB.append {Z F : Nat → Prop} {σ : List gW} : ∀ {L : List gW} {U V : Nat → Prop}, jB w F L U → (∀ b, F b → Z b) → (∀ b, F b → ¬ U b → ¬ V b) → jB w Z σ (fun b => V b ∨ F b) → jB w Z (L ++ σ) V
  | [], U, V, _, hZ, hV, h => jB.mono h (fun _ h => h) (fun b _ hn e => hn (.inl e)) (fun _ _ _ => rfl)
  | p :: L, U, V, ⟨G, hp, hG, hr⟩, hZ, hV, h => ⟨G, hp, fun b hb => ⟨hZ b (hG b hb).1, hV b (hG b hb).1 (hG b hb).2⟩,
      jB.append (L := L) hr hZ (fun b hf hn e => e.elim (hV b hf (fun h => hn (.inl h))) (fun h => hn (.inr h))) (jB.mono h (fun _ h => h) (fun b _ hn e => hn (by
        rcases e with (e | e) | e
        · exact .inl e
        · exact .inr (hG b e).1
        · exact .inr e)) (fun _ _ _ => rfl))⟩
theorem Sat.EC (h : Sat w0 M (KH e e' A C as zs L :: σ) w) : Sat w0 M (hown e A C (Bl zs as) :: (L ++ σ)) w ∧ as.length = zs.length := by
  obtain ⟨F, ⟨hl, F1, h1, h2, h3⟩, hF, hr⟩ := h.sat
  refine ⟨⟨h.keeps, F1, h1, fun b hb => hF b (h2 b hb), ?_⟩, hl⟩
  refine jB.append (F := F) h3 (fun b hb => (hF b hb).1) (fun b hf hn e => ?_) (jB.mono hr (fun _ h => h) (fun b _ hn e => hn ?_) (fun _ _ _ => rfl))
  · rcases e with e | e
    · exact e
    · exact hn e
  · rcases e with (e | e) | e
    · exact .inl e
    · exact .inr (h2 b e)
    · exact .inr e
theorem Sat.KE (hl : as.length = zs.length) (h : Sat w0 M (hown e A C (Bl zs as) :: (L ++ σ)) w) : Sat w0 M (KH e e' A C as zs L :: σ) w := by
  obtain ⟨F1, h1, hF1, hr⟩ := h.sat
  obtain ⟨F2, hF2, hL, hσ⟩ := jB.parts hr
  refine ⟨h.keeps, fun b => F1 b ∨ F2 b, ⟨hl, F1, h1, fun b hb => .inl hb, jB.mono hL (fun b hb => .inr hb) (fun b _ hn e => hn (.inr e)) (fun _ _ _ => rfl)⟩, fun b hb => ?_, jB.mono hσ (fun _ h => h) (fun b _ hn e => hn ?_) (fun _ _ _ => rfl)⟩
  · rcases hb with hb | hb
    · exact hF1 b hb
    · exact ⟨(hF2 b hb).1, fun e => (hF2 b hb).2 (.inl e)⟩
  · rcases e with e | e | e
    · exact .inl (.inl e)
    · exact .inl (.inr e)
    · exact .inr e
theorem Sat.Dt {p' : gW} {k : Nat} (hk : σ[k]? = some p) (h : Sat w0 M (p' :: σ.eraseIdx k) w) : Sat w0 M (σ.set k p') w := by
  refine h.perm ?_
  have := uK k (σ.set k p') p' (getElem?_set_self' σ k p' p hk)
  rw [eraseIdx_set] at this
  exact this.symm
theorem Sat.Jf (hs : Sat w0 M σ w) (q : Nat) (hq : σ[q]? = some (hrows e e' A C as zs)) : as.length = zs.length := (hs.front q hq).EC.2
theorem Sat.rowAt (hs : Sat w0 M σ w) (q : Nat) (hq : σ[q]? = some (hrows e e' A C as zs)) {i : Nat} {z : α} (hz : zs[i]? = some z) : ∃ (B : Option Addr) (D : Nat), as[i]? = some (B, D) :=
  ⟨_, _, List.getElem?_eq_getElem (by rw [hs.Jf q hq]; exact dO hz)⟩
theorem Sat.Fv (hs : Sat w0 M σ w) (q : Nat) (hq : σ[q]? = some (hrows e e' A C as zs)) {i : Nat} {z : α} {B : Option Addr} {D : Nat} (hz : zs[i]? = some z) (ha : as[i]? = some (B, D)) : View w (old w none_) B D (Row1.inner z) :=
  (hs.front q hq).EC.1.fA (1 + i) (by rw [Nat.add_comm, List.getElem?_cons_succ, List.getElem?_append_left (dO (yM hz ha))]; exact yM hz ha)
theorem Sat.OB (hs : Sat w0 M σ w) (q : Nat) (hq : σ[q]? = some (hrows e e' A C as zs)) : zs.length ≤ C ∧ C ≤ maxLen := by
  obtain ⟨h, hl⟩ := (hs.front q hq).EC
  have := h.fA 0 rfl
  have h2 := this.cap
  rw [EO hl] at h2
  exact ⟨h2, this.most⟩
theorem Sat.Og (hs : Sat w0 M σ w) (q : Nat) (hq : σ[q]? = some (hrows e e' A C as zs)) : View w (old w none_) A C zs := by
  obtain ⟨h1, h2⟩ := hs.OB q hq
  refine ⟨h1, h2, fun i z hz => ?_⟩
  obtain ⟨B, D, ha⟩ := hs.rowAt q hq hz
  have hv := hs.Fv q hq hz ha
  have := ((hs.front q hq).EC.1.fA 0 rfl).flat (Gt hz ha)
  exact ⟨_, by rw [Row1.same]; exact this, Row1.rep hv⟩
variable {P : Program} {n : Nat} {fs : Fr} {a : Act} {o : Oper} {v : Value} {ops : Array Oper} {rest : List Oper} {Q : Exit → Act → World → Prop}
theorem V.Nz (q : Nat) (hq : σ[q]? = some (hrows e e' A C as zs)) {i k' off m : Nat} {z : α} {B : Option Addr} {D : Nat} (hz : zs[i]? = some z) (ha : as[i]? = some (B, D)) {t : TypeId} {x : Operand} {agg : Bool} (ho : o.op = .load t x) (hx : ev fs x = some (eP A k'))
    (hk : k' = i * Flat.sz T + off) (hag : ∀ w, (isAgg t).run P w = .ok agg w) (hsz : ∀ w, (Go.sizeOf t).run P w = .ok m w) (hl : (((Flat.enc (Row1.sh z B D)).drop off).take m).length = m) (hv : mkv agg (((Flat.enc (Row1.sh z B D)).drop off).take m) = some v) :
    ∀ a w, eU n fs a → Sat w0 M σ w → jd P o a w v := fun a w hf hs =>
  V.iD 0 rfl (Gt hz ha) ho hx hk hag hsz hl hv a w hf (hs.front q hq).EC.1
theorem V.Ib (q : Nat) (hq : σ[q]? = some (hrows e e' A C as zs)) {i : Nat} {z : α} {B : Option Addr} {D : Nat} (hz : zs[i]? = some z) (ha : as[i]? = some (B, D)) {j k' off m : Nat} {y : β} (hy : (Row1.inner z)[j]? = some y) {t : TypeId} {x : Operand} {agg : Bool} (ho : o.op = .load t x) (hx : ev fs x = some (eP B k'))
    (hk : k' = j * Flat.sz β + off) (hag : ∀ w, (isAgg t).run P w = .ok agg w) (hsz : ∀ w, (Go.sizeOf t).run P w = .ok m w) (hl : (((Flat.enc y).drop off).take m).length = m) (hv : mkv agg (((Flat.enc y).drop off).take m) = some v) :
    ∀ a w, eU n fs a → Sat w0 M σ w → jd P o a w v := fun a w hf hs =>
  V.iD (1 + i) (by rw [Nat.add_comm, List.getElem?_cons_succ, List.getElem?_append_left (dO (yM hz ha))]; exact yM hz ha) hy ho hx hk hag hsz hl hv a w hf (hs.front q hq).EC.1
theorem CS {X : Type} : ∀ (l : List X) (i : Nat) (x y : X), l[i]? = some y → (x :: l).Perm (y :: l.set i x)
  | [], i, x, y, h => by simp at h
  | z :: l, 0, x, y, h => by simp at h; subst h; exact List.Perm.swap _ _ _
  | z :: l, i + 1, x, y, h => by
    simp at h
    exact (List.Perm.swap _ _ _).trans (((CS l i x y h).cons z).trans (List.Perm.swap _ _ _))
theorem S.putRow (q : Nat) (hf : eU n fs a) {B : Option Addr} {D : Nat} {ys : List β} (hs : Sat w0 M (hown e' B D ys :: σ) w) (hg : gv ops fs o = some true) (hd : o.dst = none) {t : TypeId} {x y : Operand} {i k' off m : Nat} {z : α} (z' : α) {B0 : Option Addr} {D0 : Nat} (us : List Value)
    (hq : σ[q]? = some (hrows e e' A C as zs)) (hz : zs[i]? = some z) (ha : as[i]? = some (B0, D0)) (hz' : Row1.inner z' = ys)
    (ho : o.op = .store t x y) (hx : ev fs x = some (eP A k')) (hk : k' = i * Flat.sz T + off) (hy : ev fs y = some v) (hv : v.cells = us.toArray)
    (hsz : ∀ w, (Go.sizeOf t).run P w = .ok m w) (hl : us.length = m) (hfit : off + m ≤ Flat.sz T) (h1 : us.all (·.oneCell') = true) (hvs : (Flat.enc (Row1.sh z B0 D0)).take off ++ us ++ (Flat.enc (Row1.sh z B0 D0)).drop (off + m) = Flat.enc (Row1.sh z' B D))
    (k : ∀ a w', eU n fs a → Sat w0 M (σ.set q (hrows e e' A C (as.set i (B, D)) (zs.set i z'))) w' → wpList P ops Q rest a w') : wpList P ops Q (o :: rest) a w := by
  have hs0 : Sat w0 M (hrows e e' A C as zs :: hown e' B D ys :: σ.eraseIdx q) w := (hs.front (q + 1) (by simpa using hq)).perm (by simp)
  obtain ⟨hs1, hlen⟩ := hs0.EC
  have hst := yM (e' := e') hz ha
  refine S.je 0 hf hs1 hg hd (Row1.sh z' B D) us rfl (Gt hz ha) ho hx hk hy hv hsz hl hfit h1 hvs (fun a w' hf hs2 => k a w' hf ?_)
  refine Sat.Dt hq (Sat.KE (by simp [hlen]) ?_)
  have e1 : Bl (zs.set i z') (as.set i (B, D)) = (Bl zs as).set i (Row1.sh z' B D) := (tV (fun z (a : Option Addr × Nat) => Row1.sh z a.1 a.2) zs as i z' (B, D)).symm
  have e2 : zG e' (zs.set i z') (as.set i (B, D)) = (zG e' zs as).set i (hown e' B D ys) := by
    have := (tV (fun z (a : Option Addr × Nat) => hown e' a.1 a.2 (Row1.inner z)) zs as i z' (B, D)).symm
    rw [← hz']; exact this
  rw [e1, e2]
  have hs3 : Sat w0 M (hown e A C ((Bl zs as).set i (Row1.sh z' B D)) :: (zG e' zs as ++ hown e' B D ys :: σ.eraseIdx q)) w' := hs2
  have hp : (hown e A C ((Bl zs as).set i (Row1.sh z' B D)) :: (zG e' zs as ++ hown e' B D ys :: σ.eraseIdx q)).Perm (hown e' B0 D0 (Row1.inner z) :: (hown e A C ((Bl zs as).set i (Row1.sh z' B D)) :: ((zG e' zs as).set i (hown e' B D ys) ++ σ.eraseIdx q))) := by
    refine (List.Perm.cons _ (List.perm_middle)).trans ?_
    refine (List.Perm.cons _ ?_).trans (List.Perm.swap _ _ _)
    exact (CS (zG e' zs as) i (hown e' B D ys) _ hst).append_right (σ.eraseIdx q)
  exact (hs3.perm hp).drop
theorem yA {X : Type} : ∀ (l : List X) (k : Nat) (x : X), l[k]? = some x → l.drop k = x :: l.drop (k + 1)
  | [], _, _, h => by simp at h
  | y :: l, 0, x, h => by simp at h; simp [h]
  | y :: l, k + 1, x, h => by simp at h; simpa using yA l k x h
theorem Sat.Qb {q : Nat} {p' : gW} (hq : σ[q]? = some p) (h : Sat w0 M (p' :: σ.eraseIdx q) w) : Sat w0 M (σ.set q p') w := by
  refine h.perm ?_
  have := uK q (σ.set q p') _ (getElem?_set_self' σ q _ _ hq)
  rw [eraseIdx_set] at this
  exact this.symm
theorem Sat.CY (hs : Sat w0 M σ w) (e e' : TypeId) : Sat w0 M (hrows e e' none 0 ([] : List (Option Addr × Nat)) ([] : List α) :: σ) w :=
  Sat.KE rfl (hs.rM (α := T) e)
theorem S.Io (q : Nat) (hf : eU n fs a) {B : Option Addr} {D : Nat} {ys : List β} (hs : Sat w0 M (hown e' B D ys :: σ) w) {d : Nat} (hg : gv ops fs o = some true) (hd : o.dst = some d) (hdn : Nat.blt d n = true) (z : α) (hz : Row1.inner z = ys) {x y : Operand} {t : TypeId} {A2 : Option Addr} {C2 bytes : Nat} {zc : List Value}
    (hq : σ[q]? = some (hrows e e' A C as zs)) (ho : o.op = .call ⟨.builtin .append, #[x, y], #[t, t]⟩) (hx : ev fs x = some (.slice A zs.length C)) (hy : ev fs y = some (.slice A2 1 C2)) (ht : P.underlying t = some (.slice e)) (hi : pX P e (Flat.sz T) bytes zc) (hzc : zc.length = Flat.sz T) (hroom : room (zs ++ [z]).length bytes)
    (hA2 : A2.isSome = true) (hv : View w (old w none_) A2 C2 [Row1.sh z B D])
    (k : ∀ A' C' a w', eU n ((d, .slice A' (zs ++ [z]).length C') :: fs) a → Sat w0 M (σ.set q (hrows e e' A' C' (as ++ [(B, D)]) (zs ++ [z]))) w' → wpList P ops Q rest a w') : wpList P ops Q (o :: rest) a w := by
  have hs0 : Sat w0 M (hrows e e' A C as zs :: hown e' B D ys :: σ.eraseIdx q) w := (hs.front (q + 1) (by simpa using hq)).perm (by simp)
  obtain ⟨hs1, hlen⟩ := hs0.EC
  have hsl := EO (T := T) hlen
  refine S.iU 0 hf hs1 hg hd hdn rfl ho (by rw [hsl]; exact hx) hy ht hi hzc (by rw [List.length_append, hsl]; simpa using hroom) hA2 hv (fun A' C' a w' hf hs2 => k A' C' a w' (by rw [List.length_append, hsl] at hf; simpa using hf) ?_)
  refine Sat.Dt hq (Sat.KE (by simp [hlen]) ?_)
  have e1 : Bl (zs ++ [z]) (as ++ [(B, D)]) = Bl zs as ++ [Row1.sh z B D] := by unfold Bl; rw [List.zipWith_append hlen.symm]; rfl
  have e2 : zG e' (zs ++ [z]) (as ++ [(B, D)]) = zG e' zs as ++ [hown e' B D ys] := by unfold zG; rw [List.zipWith_append hlen.symm, ← hz]; rfl
  rw [e1, e2, List.append_assoc]
  exact hs2
end
theorem Sat.vO {w w0 : World} {M : Nat → Prop} {σ : List gW} (hs : Sat w0 M σ w) (q : Nat) {g : Nat} {e : TypeId} {vs vs' : List Value} (hq : σ[q]? = some (hbox g e vs)) (hv : vs = vs') : Sat w0 M (σ.set q (hbox g e vs')) w := by
  subst hv
  rw [set_self σ q _ hq]
  exact hs
theorem Ia {X Y : Type} {as : List X} {zs : List Y} {b : X} {z : Y} (h : (as ++ [b]).length = (zs ++ [z]).length) : (as ++ [b])[zs.length]? = some b := by
  simp only [List.length_append, List.length_singleton] at h
  rw [show zs.length = as.length by omega]; exact List.getElem?_concat_length
section
variable {P : Program} {ops : Array Oper} {Q : Exit → Act → World → Prop} {md : Region.Mode} {K : World → Prop} {s : Nat}
def ji (P : Program) (md : Region.Mode) (ops : Array Oper) (Q : Exit → Act → World → Prop) (K : World → Prop) (s : Nat) : Nat → Array Bool → Act → World → Prop
  | 0, listed, a, w => Region.ready md ops listed = [] ∧ Q .normal a w
  | fuel + 1, listed, a, w =>
    (Region.ready md ops listed = [] → Q .normal a w) ∧
    ∀ i ∈ Region.ready md ops listed, wpOp P ops Q i (fun a' w' => ((listed.setIfInBounds i true).getD s true = false → K w') ∧ ji P md ops Q K s fuel (listed.setIfInBounds i true) a' w') a w
theorem Bv : ∀ (fuel : Nat) (listed : Array Bool) (a : Act) (w : World), ji P md ops Q K s fuel listed a w → wpAny P md ops Q fuel listed a w
  | 0, _, _, _, h => h
  | fuel + 1, _, _, _, h => ⟨h.1, fun i hi => wpOp_mono (fun a' w' h' => Bv fuel _ a' w' h'.2) (h.2 i hi)⟩
theorem Dn {i : Nat} {oi os : Oper} {v : Value} (hi : ops[i]? = some oi) (hos : ops[s]? = some os) (hwait : ∃ e ∈ os.after, Region.binds md e = true ∧ e.on = i) (hsel : ∀ (j : Nat) (o : Oper) cs b, ops[j]? = some o → o.op ≠ .select cs b)
    (hQ : ∀ c a w, Q (.panic c) (a.put oi.dst v) w → Q (.panic c) a w) :
    ∀ (fuel : Nat) (listed : Array Bool) (a : Act) (w : World),
      (∀ j oj, ops[j]? = some oj → j ≠ i → listed.getD j true = false → (∀ e ∈ oj.after, Region.binds md e = true → e.on ≠ i) → oi.apart ops oj = true) →
      i ∈ Region.ready md ops listed → YieldsIf P ops K oi v a → listed.getD s true = false → i ≠ s → K w →
      ji P md ops Q K s fuel (listed.setIfInBounds i true) (a.put oi.dst v) w → ji P md ops Q K s (fuel + 1) listed a w := by
  intro fuel
  induction fuel with
  | zero =>
    intro listed a w _ hr hy hsl his hK H
    refine ⟨fun h => (by rw [h] at hr; cases hr), fun j hj => ?_⟩
    by_cases hji : j = i
    · subst hji; exact hy.wpOp hi hK ⟨fun _ => hK, H⟩
    · have := ready_mono hj hji
      rw [H.1] at this
      cases this
  | succ fuel ih =>
    intro listed a w hfree hr hy hsl his hK H
    refine ⟨fun h => (by rw [h] at hr; cases hr), fun j hj => ?_⟩
    by_cases hji : j = i
    · subst hji; exact hy.wpOp hi hK ⟨fun _ => hK, H⟩
    · have h1 := H.2 j (ready_mono hj hji)
      obtain ⟨hjun, oj, hoj, hall⟩ := mem_ready.1 hj
      have hnot : ∀ e ∈ oj.after, Region.binds md e = true → e.on ≠ i := fun e he hb heq => by
        have h1 := hall e he hb
        have h0 := (mem_ready.1 hr).1
        rw [heq] at h1
        rcases Nat.lt_or_ge i listed.size with h' | h'
        · simp [h'] at h0 h1; rw [h0] at h1; cases h1
        · simp [Array.getElem?_eq_none h'] at h1
      have hjs : j ≠ s := fun e => by
        subst e
        obtain ⟨e, he, hb, hon⟩ := hwait
        rw [hos] at hoj; injection hoj with hoj; subst hoj
        exact hnot e he hb hon
      have h2 := wpOp_putIf hoj (hfree j oj hoj hji hjun hnot) (fun cs b => hsel i oi cs b hi) (fun cs b => hsel j oj cs b hoj) hQ hy h1
      have hfree' : ∀ k ok, ops[k]? = some ok → k ≠ i → (listed.setIfInBounds j true).getD k true = false →
          (∀ e ∈ ok.after, Region.binds md e = true → e.on ≠ i) → oi.apart ops ok = true := fun k ok hk hki hun hno => by
        refine hfree k ok hk hki ?_ hno
        by_cases hjk : j = k
        · subst hjk; exact hjun
        · rw [getD_set_ne true hjk] at hun; exact hun
      have hs2 : (listed.setIfInBounds j true).getD s true = false := by rw [getD_set_ne true hjs]; exact hsl
      have hs3 : ((listed.setIfInBounds i true).setIfInBounds j true).getD s true = false := by rw [getD_set_ne true hjs, getD_set_ne true his]; exact hsl
      refine wpOp_mono (fun a' w' h3 => ⟨fun _ => h3.2.1 hs3, ih (listed.setIfInBounds j true) a' w' hfree' (ready_mono hr (Ne.symm hji)) h3.1 hs2 his (h3.2.1 hs3) ?_⟩) h2
      rw [Array.setIfInBounds_comm _ _ hji]
      exact h3.2.2
def waitsFor (md : Region.Mode) (ops : Array Oper) (s i : Nat) : Bool := match ops[s]? with
  | some os => os.after.any (fun e => Region.binds md e && e.on == i)
  | none => false
theorem waitsFor_spec {i : Nat} (h : waitsFor md ops s i = true) : ∃ os, ops[s]? = some os ∧ ∃ e ∈ os.after, Region.binds md e = true ∧ e.on = i := by
  unfold waitsFor at h
  split at h
  · rename_i os hos
    obtain ⟨k, hk, h1⟩ := Array.any_eq_true.1 h
    simp only [Bool.and_eq_true, beq_iff_eq] at h1
    exact ⟨os, hos, os.after[k], Array.getElem_mem hk, h1.1, h1.2⟩
  · cases h
end
section
variable {P : Program} {n : Nat} {fs : Fr} {a : Act} {o : Oper} {v : Value} {ops : Array Oper} {Q : Exit → Act → World → Prop} {w w0 : World} {M : Nat → Prop} {σ : List gW} {K : World → Prop} {fuel i s : Nat} {listed : Array Bool}
theorem M.start {id : Nat} (s : Nat) (K : World → Prop) (hm : P.follows .mixedOrders = true) (h : ji P .any ops (gI Q) K s ops.size (Array.replicate ops.size false) a w.drew) : (Code.region id ops true).wp P Q a w :=
  wp_mono (wp_region_any hm (Bv _ _ _ _ h)) fun e a w he => by cases e <;> first | exact he | exact (he : False).elim
theorem M.val (hf : eU n fs a) (hs : K w) {d : Nat} (hi : ops[i]? = some o) (hg : gv ops fs o = some true) (hd : o.dst = some d) (hdn : Nat.blt d n = true) (h1 : Region.noSelect ops = true) (h2 : Region.free .any ops listed i = true) (h3 : (Region.ready .any ops listed).contains i = true)
    (h4 : waitsFor .any ops s i = true) (h5 : listed.getD s true = false) (h6 : Nat.beq i s = false)
    (hrun : ∀ a w, eU n fs a → K w → jd P o a w v) (k : ∀ a, eU n ((d, v) :: fs) a → ji P .any ops (gI Q) K s fuel (listed.setIfInBounds i true) a w) : ji P .any ops (gI Q) K s (fuel + 1) listed a w := by
  obtain ⟨os, hos, hw⟩ := waitsFor_spec h4
  refine Dn (v := v) hi hos hw (Region.noSelect_spec h1) (fun c a w h => h) fuel listed a w (Region.free_spec hi h2) (by simpa using h3) (.inl ⟨xE hf hg, fun w hw => hrun a w hf hw⟩) h5 (fun e => by rw [e, Nat.beq_refl] at h6; cases h6) hs ?_
  rw [hd]
  exact k _ (hf.put d (Nat.blt_eq ▸ hdn) v)
theorem M.skip (hf : eU n fs a) (hs : K w) {d : Nat} (hi : ops[i]? = some o) (hg : gv ops fs o = some false) (hd : o.dst = some d) (hdn : Nat.blt d n = true) (h1 : Region.noSelect ops = true) (h2 : Region.free .any ops listed i = true) (h3 : (Region.ready .any ops listed).contains i = true)
    (h4 : waitsFor .any ops s i = true) (h5 : listed.getD s true = false) (h6 : Nat.beq i s = false)
    (k : ∀ a, eU n ((d, undef) :: fs) a → ji P .any ops (gI Q) K s fuel (listed.setIfInBounds i true) a w) : ji P .any ops (gI Q) K s (fuel + 1) listed a w := by
  obtain ⟨os, hos, hw⟩ := waitsFor_spec h4
  refine Dn (v := undef) hi hos hw (Region.noSelect_spec h1) (fun c a w h => h) fuel listed a w (Region.free_spec hi h2) (by simpa using h3) (.inr ⟨xE hf hg, rfl⟩) h5 (fun e => by rw [e, Nat.beq_refl] at h6; cases h6) hs ?_
  rw [hd]
  exact k _ (hf.put d (Nat.blt_eq ▸ hdn) undef)
theorem M.split (hf : eU n fs a) (hs : K w) {d : Nat} {b : Bool} (hi : ops[i]? = some o) (hg : gv ops fs o = some true) (hd : o.dst = some d) (hdn : Nat.blt d n = true) (h1 : Region.noSelect ops = true) (h2 : Region.free .any ops listed i = true) (h3 : (Region.ready .any ops listed).contains i = true)
    (h4 : waitsFor .any ops s i = true) (h5 : listed.getD s true = false) (h6 : Nat.beq i s = false)
    (hrun : ∀ a w, eU n fs a → K w → jd P o a w (.bool b)) (kt : b = true → ∀ a, eU n ((d, .bool true) :: fs) a → ji P .any ops (gI Q) K s fuel (listed.setIfInBounds i true) a w)
    (kf : b = false → ∀ a, eU n ((d, .bool false) :: fs) a → ji P .any ops (gI Q) K s fuel (listed.setIfInBounds i true) a w) : ji P .any ops (gI Q) K s (fuel + 1) listed a w := by
  refine M.val hf hs hi hg hd hdn h1 h2 h3 h4 h5 h6 hrun (fun a ha => ?_)
  cases b
  · exact kf rfl a ha
  · exact kt rfl a ha
theorem M.one (hi : ops[i]? = some o) (hr : Region.ready .any ops listed = [i]) (h : wpList P ops (Exit.then (fun a' w' => K w' ∧ ji P .any ops (gI Q) K s fuel (listed.setIfInBounds i true) a' w') (gI Q)) [o] a w) : ji P .any ops (gI Q) K s (fuel + 1) listed a w := by
  refine ⟨fun h0 => (by rw [hr] at h0; cases h0), fun j hj => ?_⟩
  have : j = i := by rw [hr] at hj; simpa using hj
  subst this
  refine wpOp_mono (K := fun a' w' => K w' ∧ ji P .any ops (gI Q) K s fuel (listed.setIfInBounds j true) a' w') (fun a' w' h' => ⟨fun _ => h'.1, h'.2⟩) ?_
  unfold wpOp
  rw [hi]
  exact h
theorem M.last (hi : ops[i]? = some o) (hr : Region.ready .any ops listed = [i]) (hl : (listed.setIfInBounds i true).getD s true = true) (h : wpList P ops (Exit.then (fun a' w' => ji P .any ops (gI Q) K s fuel (listed.setIfInBounds i true) a' w') (gI Q)) [o] a w) : ji P .any ops (gI Q) K s (fuel + 1) listed a w := by
  refine ⟨fun h0 => (by rw [hr] at h0; cases h0), fun j hj => ?_⟩
  have : j = i := by rw [hr] at hj; simpa using hj
  subst this
  refine wpOp_mono (K := fun a' w' => ji P .any ops (gI Q) K s fuel (listed.setIfInBounds j true) a' w') (fun a' w' h' => ⟨fun e => (by rw [hl] at e; cases e), h'⟩) ?_
  unfold wpOp
  rw [hi]
  exact h
theorem M.done (hr : Region.ready .any ops listed = []) (h : Q .normal a w) : ji P .any ops (gI Q) K s fuel listed a w := by
  cases fuel with
  | zero => exact ⟨hr, h⟩
  | succ fuel => exact ⟨fun _ => h, by rw [hr]; simp⟩
end
class Bulk (α : Type) where
  bk : α → Nat
  one : ∀ x, 1 ≤ bk x
instance Pq : Bulk Int := ⟨fun _ => 1, fun _ => Nat.le_refl _⟩
instance OV : Bulk Bool := ⟨fun _ => 1, fun _ => Nat.le_refl _⟩
instance Pz : Bulk Str := ⟨fun s => s.length + 1, fun _ => Nat.le_add_left _ _⟩
instance OD {α : Type} [Bulk α] : Bulk (List α) := ⟨fun l => (l.map Bulk.bk).sum + 1, fun _ => Nat.le_add_left _ _⟩
theorem NW {α : Type} [Bulk α] {l : List α} {x : α} (h : x ∈ l) : Bulk.bk x < Bulk.bk l := by
  show Bulk.bk x < (l.map Bulk.bk).sum + 1
  have : ∀ (l : List α), x ∈ l → Bulk.bk x ≤ (l.map Bulk.bk).sum := by
    intro l
    induction l with
    | nil => intro h; cases h
    | cons y r ih =>
      intro h
      simp only [List.map_cons, List.sum_cons]
      rcases List.mem_cons.1 h with h | h
      · subst h; omega
      · have := ih h; omega
  have := this l h
  omega
def countB (s : Str) (c : Int) : Int := (s.count c.toNat.toUInt8 : Nat)
end Go.Proofs.YtfjcgoiedlimdaaGreatDoor
