/- Chapter texts of ours, as far as the claim needs them. -/
import Derived.Test.YtbegofbmbcghdaaGreatDoorOwn
namespace Go.Proofs.YtbegofbmbcghdaaGreatDoor
open Go Go.RowKit
set_option linter.unusedVariables false
set_option linter.unusedSectionVars false
set_option linter.unusedSimpArgs false
structure Sl where
  a : Option Addr
  n : Nat
  c : Nat
instance : Flat Sl := ⟨1, Nat.one_pos, fun s => [.slice s.a s.n s.c], fun _ => rfl, fun _ v hv => by simp at hv; subst hv; rfl⟩
class Row1 (α : Type) (β T : outParam Type) [Rep α] [Flat β] [Flat T] where
  inner : α → List β
  sh : α → Option Addr → Nat → T
  rep : ∀ {w F A C z}, View w F A C (inner z) → Rep.rd w F (Flat.enc (sh z A C)) z
  same : Rep.sz α = Flat.sz T
instance QK {β : Type} [Flat β] : Row1 (List β) β Sl := ⟨fun x => x, fun x A C => ⟨A, x.length, C⟩, fun h => ⟨_, _, rfl, h⟩, rfl⟩
section
variable {α β T : Type} [Rep α] [Flat β] [Flat T] [Row1 α β T]
def wH (zs : List α) (as : List (Option Addr × Nat)) : List T := zs.zipWith (fun z a => Row1.sh z a.1 a.2) as
def qM (e' : TypeId) (zs : List α) (as : List (Option Addr × Nat)) : List gJ := zs.zipWith (fun z a => hown e' a.1 a.2 (Row1.inner z)) as
def FM (e e' : TypeId) (A : Option Addr) (C : Nat) (as : List (Option Addr × Nat)) (zs : List α) (L : List gJ) : gJ :=
  ⟨fun w F => as.length = zs.length ∧ ∃ F1 : Nat → Prop, (hown e A C (wH zs as)).holds w F1 ∧ (∀ b, F1 b → F b) ∧ ji w F L F1,
    fun ⟨hl, F1, h1, h2, h3⟩ hb => ⟨hl, F1, (hown e A C (wH zs as)).loc h1 (fun b h => hb b (h2 b h)), h2, ji.mono h3 (fun _ h => h) (fun _ _ h => h) (fun b hz _ => hb b hz)⟩⟩
def hrows (e e' : TypeId) (A : Option Addr) (C : Nat) (as : List (Option Addr × Nat)) (zs : List α) : gJ := FM e e' A C as zs (qM e' zs as)
def IJ (e e' : TypeId) (A : Option Addr) (C : Nat) (as : List (Option Addr × Nat)) (zs : List α) (i : Nat) : gJ := FM e e' A C as zs ((qM e' zs as).eraseIdx i)
theorem yu {zs : List α} {as : List (Option Addr × Nat)} {i : Nat} {z : α} {a : Option Addr × Nat} (hz : zs[i]? = some z) (ha : as[i]? = some a) : (wH zs as)[i]? = some (Row1.sh z a.1 a.2) := by
  unfold wH; rw [List.getElem?_zipWith, hz, ha]
theorem uz {e' : TypeId} {zs : List α} {as : List (Option Addr × Nat)} {i : Nat} {z : α} {a : Option Addr × Nat} (hz : zs[i]? = some z) (ha : as[i]? = some a) : (qM e' zs as)[i]? = some (hown e' a.1 a.2 (Row1.inner z)) := by
  unfold qM; rw [List.getElem?_zipWith, hz, ha]
theorem sH {X Y Z : Type} (f : X → Y → Z) : ∀ (xs : List X) (ys : List Y) (i : Nat) (x : X) (y : Y), (xs.zipWith f ys).set i (f x y) = (xs.set i x).zipWith f (ys.set i y)
  | [], _, i, _, _ => by simp
  | _ :: _, [], i, _, _ => by cases i <;> simp
  | _ :: _, _ :: _, 0, _, _ => by simp
  | _ :: xs, _ :: ys, i + 1, x, y => by simp [sH f xs ys i x y]
theorem zH {zs : List α} {as : List (Option Addr × Nat)} (h : as.length = zs.length) : (wH zs as).length = zs.length := by unfold wH; rw [List.length_zipWith]; omega
theorem set_self {X : Type} : ∀ (l : List X) (i : Nat) (x : X), l[i]? = some x → l.set i x = l
  | [], i, x, h => by simp
  | y :: l, 0, x, h => by simp at h; simp [h]
  | y :: l, i + 1, x, h => by simp at h; simp [set_self l i x h]
variable {w w0 : World} {M : Nat → Prop} {σ L : List gJ} {p q : gJ} {e e' : TypeId} {A : Option Addr} {C : Nat} {zs : List α} {as : List (Option Addr × Nat)}
theorem ji.append {Z F : Nat → Prop} {σ : List gJ} : ∀ {L : List gJ} {U V : Nat → Prop}, ji w F L U → (∀ b, F b → Z b) → (∀ b, F b → ¬ U b → ¬ V b) → ji w Z σ (fun b => V b ∨ F b) → ji w Z (L ++ σ) V
  | [], U, V, _, hZ, hV, h => ji.mono h (fun _ h => h) (fun b _ hn e => hn (.inl e)) (fun _ _ _ => rfl)
  | p :: L, U, V, ⟨G, hp, hG, hr⟩, hZ, hV, h => ⟨G, hp, fun b hb => ⟨hZ b (hG b hb).1, hV b (hG b hb).1 (hG b hb).2⟩,
      ji.append (L := L) hr hZ (fun b hf hn e => e.elim (hV b hf (fun h => hn (.inl h))) (fun h => hn (.inr h))) (ji.mono h (fun _ h => h) (fun b _ hn e => hn (by
        rcases e with (e | e) | e
        · exact .inl e
        · exact .inr (hG b e).1
        · exact .inr e)) (fun _ _ _ => rfl))⟩
theorem Sat.yH (h : Sat w0 M (FM e e' A C as zs L :: σ) w) : Sat w0 M (hown e A C (wH zs as) :: (L ++ σ)) w ∧ as.length = zs.length := by
  obtain ⟨F, ⟨hl, F1, h1, h2, h3⟩, hF, hr⟩ := h.sat
  refine ⟨⟨h.keeps, F1, h1, fun b hb => hF b (h2 b hb), ?_⟩, hl⟩
  refine ji.append (F := F) h3 (fun b hb => (hF b hb).1) (fun b hf hn e => ?_) (ji.mono hr (fun _ h => h) (fun b _ hn e => hn ?_) (fun _ _ _ => rfl))
  · rcases e with e | e
    · exact e
    · exact hn e
  · rcases e with (e | e) | e
    · exact .inl e
    · exact .inr (h2 b e)
    · exact .inr e
theorem Sat.Ar (hl : as.length = zs.length) (h : Sat w0 M (hown e A C (wH zs as) :: (L ++ σ)) w) : Sat w0 M (FM e e' A C as zs L :: σ) w := by
  obtain ⟨F1, h1, hF1, hr⟩ := h.sat
  obtain ⟨F2, hF2, hL, hσ⟩ := ji.parts hr
  refine ⟨h.keeps, fun b => F1 b ∨ F2 b, ⟨hl, F1, h1, fun b hb => .inl hb, ji.mono hL (fun b hb => .inr hb) (fun b _ hn e => hn (.inr e)) (fun _ _ _ => rfl)⟩, fun b hb => ?_, ji.mono hσ (fun _ h => h) (fun b _ hn e => hn ?_) (fun _ _ _ => rfl)⟩
  · rcases hb with hb | hb
    · exact hF1 b hb
    · exact ⟨(hF2 b hb).1, fun e => (hF2 b hb).2 (.inl e)⟩
  · rcases e with e | e | e
    · exact .inl (.inl e)
    · exact .inl (.inr e)
    · exact .inr e
theorem Sat.GZ {p' : gJ} {k : Nat} (hk : σ[k]? = some p) (h : Sat w0 M (p' :: σ.eraseIdx k) w) : Sat w0 M (σ.set k p') w := by
  refine h.perm ?_
  have := sJ k (σ.set k p') p' (getElem?_set_self' σ k p' p hk)
  rw [eraseIdx_set] at this
  exact this.symm
theorem Sat.Qy (hs : Sat w0 M σ w) (q : Nat) (hq : σ[q]? = some (hrows e e' A C as zs)) : as.length = zs.length := (hs.front q hq).yH.2
theorem Sat.rowAt (hs : Sat w0 M σ w) (q : Nat) (hq : σ[q]? = some (hrows e e' A C as zs)) {i : Nat} {z : α} (hz : zs[i]? = some z) : ∃ (B : Option Addr) (D : Nat), as[i]? = some (B, D) :=
  ⟨_, _, List.getElem?_eq_getElem (by rw [hs.Qy q hq]; exact TL hz)⟩
theorem Sat.Oj (hs : Sat w0 M σ w) (q : Nat) (hq : σ[q]? = some (hrows e e' A C as zs)) {i : Nat} {z : α} {B : Option Addr} {D : Nat} (hz : zs[i]? = some z) (ha : as[i]? = some (B, D)) : View w (old w none_) B D (Row1.inner z) :=
  (hs.front q hq).yH.1.fQ (1 + i) (by rw [Nat.add_comm, List.getElem?_cons_succ, List.getElem?_append_left (TL (uz hz ha))]; exact uz hz ha)
theorem Sat.Q9 (hs : Sat w0 M σ w) (q : Nat) (hq : σ[q]? = some (hrows e e' A C as zs)) : zs.length ≤ C ∧ C ≤ maxLen := by
  obtain ⟨h, hl⟩ := (hs.front q hq).yH
  have := h.fQ 0 rfl
  have h2 := this.cap
  rw [zH hl] at h2
  exact ⟨h2, this.most⟩
theorem Sat.MF (hs : Sat w0 M σ w) (q : Nat) (hq : σ[q]? = some (hrows e e' A C as zs)) : View w (old w none_) A C zs := by
  obtain ⟨h1, h2⟩ := hs.Q9 q hq
  refine ⟨h1, h2, fun i z hz => ?_⟩
  obtain ⟨B, D, ha⟩ := hs.rowAt q hq hz
  have hv := hs.Oj q hq hz ha
  have := ((hs.front q hq).yH.1.fQ 0 rfl).flat (yu hz ha)
  exact ⟨_, by rw [Row1.same]; exact this, Row1.rep hv⟩
theorem Sat.zk (hs : Sat w0 M σ w) (q : Nat) (hq : σ[q]? = some (hrows e e' A C as zs)) {i : Nat} {z : α} (hz : zs[i]? = some z) : A.isSome = true := (hs.MF q hq).some_ (TL hz)
variable {P : Program} {n : Nat} {fs : Fr} {a : Act} {o : Oper} {v : Value} {ops : Array Oper} {rest : List Oper} {Q : Exit → Act → World → Prop}
theorem V.Hu (q : Nat) (hq : σ[q]? = some (hrows e e' A C as zs)) {i k' off m : Nat} {z : α} {B : Option Addr} {D : Nat} (hz : zs[i]? = some z) (ha : as[i]? = some (B, D)) {t : TypeId} {x : Operand} {agg : Bool} (ho : o.op = .load t x) (hx : ev fs x = some (fA A k'))
    (hk : k' = i * Flat.sz T + off) (hag : ∀ w, (isAgg t).run P w = .ok agg w) (hsz : ∀ w, (Go.sizeOf t).run P w = .ok m w) (hl : (((Flat.enc (Row1.sh z B D)).drop off).take m).length = m) (hv : mkv agg (((Flat.enc (Row1.sh z B D)).drop off).take m) = some v) :
    ∀ a w, fB n fs a → Sat w0 M σ w → kC P o a w v := fun a w hf hs =>
  V.jh 0 rfl (yu hz ha) ho hx hk hag hsz hl hv a w hf (hs.front q hq).yH.1
theorem LC {X : Type} : ∀ (l : List X) (i : Nat) (x y : X), l[i]? = some y → (x :: l).Perm (y :: l.set i x)
  | [], i, x, y, h => by simp at h
  | z :: l, 0, x, y, h => by simp at h; subst h; exact List.Perm.swap _ _ _
  | z :: l, i + 1, x, y, h => by
    simp at h
    exact (List.Perm.swap _ _ _).trans (((LC l i x y h).cons z).trans (List.Perm.swap _ _ _))
theorem S.putRow (q : Nat) (hf : fB n fs a) {B : Option Addr} {D : Nat} {ys : List β} (hs : Sat w0 M (hown e' B D ys :: σ) w) (hg : gv ops fs o = some true) (hd : o.dst = none) {t : TypeId} {x y : Operand} {i k' off m : Nat} {z : α} (z' : α) {B0 : Option Addr} {D0 : Nat} (us : List Value)
    (hq : σ[q]? = some (hrows e e' A C as zs)) (hz : zs[i]? = some z) (ha : as[i]? = some (B0, D0)) (hz' : Row1.inner z' = ys)
    (ho : o.op = .store t x y) (hx : ev fs x = some (fA A k')) (hk : k' = i * Flat.sz T + off) (hy : ev fs y = some v) (hv : v.cells = us.toArray)
    (hsz : ∀ w, (Go.sizeOf t).run P w = .ok m w) (hl : us.length = m) (hfit : off + m ≤ Flat.sz T) (h1 : us.all (·.oneCell') = true) (hvs : (Flat.enc (Row1.sh z B0 D0)).take off ++ us ++ (Flat.enc (Row1.sh z B0 D0)).drop (off + m) = Flat.enc (Row1.sh z' B D))
    (k : ∀ a w', fB n fs a → Sat w0 M (σ.set q (hrows e e' A C (as.set i (B, D)) (zs.set i z'))) w' → wpList P ops Q rest a w') : wpList P ops Q (o :: rest) a w := by
  have hs0 : Sat w0 M (hrows e e' A C as zs :: hown e' B D ys :: σ.eraseIdx q) w := (hs.front (q + 1) (by simpa using hq)).perm (by simp)
  obtain ⟨hs1, hlen⟩ := hs0.yH
  have hst := uz (e' := e') hz ha
  refine S.zA 0 hf hs1 hg hd (Row1.sh z' B D) us rfl (yu hz ha) ho hx hk hy hv hsz hl hfit h1 hvs (fun a w' hf hs2 => k a w' hf ?_)
  refine Sat.GZ hq (Sat.Ar (by simp [hlen]) ?_)
  have e1 : wH (zs.set i z') (as.set i (B, D)) = (wH zs as).set i (Row1.sh z' B D) := (sH (fun z (a : Option Addr × Nat) => Row1.sh z a.1 a.2) zs as i z' (B, D)).symm
  have e2 : qM e' (zs.set i z') (as.set i (B, D)) = (qM e' zs as).set i (hown e' B D ys) := by
    have := (sH (fun z (a : Option Addr × Nat) => hown e' a.1 a.2 (Row1.inner z)) zs as i z' (B, D)).symm
    rw [← hz']; exact this
  rw [e1, e2]
  have hs3 : Sat w0 M (hown e A C ((wH zs as).set i (Row1.sh z' B D)) :: (qM e' zs as ++ hown e' B D ys :: σ.eraseIdx q)) w' := hs2
  have hp : (hown e A C ((wH zs as).set i (Row1.sh z' B D)) :: (qM e' zs as ++ hown e' B D ys :: σ.eraseIdx q)).Perm (hown e' B0 D0 (Row1.inner z) :: (hown e A C ((wH zs as).set i (Row1.sh z' B D)) :: ((qM e' zs as).set i (hown e' B D ys) ++ σ.eraseIdx q))) := by
    refine (List.Perm.cons _ (List.perm_middle)).trans ?_
    refine (List.Perm.cons _ ?_).trans (List.Perm.swap _ _ _)
    exact (LC (qM e' zs as) i (hown e' B D ys) _ hst).append_right (σ.eraseIdx q)
  exact (hs3.perm hp).drop
theorem Sat.takeRow (hs : Sat w0 M σ w) (q : Nat) (hq : σ[q]? = some (hrows e e' A C as zs)) {i : Nat} {z : α} {B : Option Addr} {D : Nat} (hz : zs[i]? = some z) (ha : as[i]? = some (B, D)) : Sat w0 M (hown e' B D (Row1.inner z) :: σ.set q (IJ e e' A C as zs i)) w := by
  obtain ⟨hs1, hlen⟩ := (hs.front q hq).yH
  have hst := uz (e' := e') hz ha
  have hp : (hown e A C (wH zs as) :: (qM e' zs as ++ σ.eraseIdx q)).Perm (hown e A C (wH zs as) :: ((qM e' zs as).eraseIdx i ++ hown e' B D (Row1.inner z) :: σ.eraseIdx q)) := by
    refine List.Perm.cons _ (((sJ i _ _ hst).append_right _).trans ?_)
    exact List.perm_middle.symm
  have h2 := Sat.Ar (e' := e') hlen (hs1.perm hp)
  have h3 : Sat w0 M (hown e' B D (Row1.inner z) :: IJ e e' A C as zs i :: σ.eraseIdx q) w := h2.perm (List.Perm.swap _ _ _)
  refine h3.perm (List.Perm.cons _ ?_)
  have := sJ q (σ.set q (IJ e e' A C as zs i)) _ (getElem?_set_self' σ q _ _ hq)
  rw [eraseIdx_set] at this
  exact this.symm
theorem S.QL (q : Nat) (hf : fB n fs a) {B : Option Addr} {D : Nat} {ys : List β} (hs : Sat w0 M (hown e' B D ys :: σ) w) (hg : gv ops fs o = some true) (hd : o.dst = none) {t : TypeId} {x y : Operand} {i k' off m : Nat} {z : α} (z' : α) {B0 : Option Addr} {D0 : Nat} (us : List Value)
    (hq : σ[q]? = some (IJ e e' A C as zs i)) (hz : zs[i]? = some z) (ha : as[i]? = some (B0, D0)) (hz' : Row1.inner z' = ys)
    (ho : o.op = .store t x y) (hx : ev fs x = some (fA A k')) (hk : k' = i * Flat.sz T + off) (hy : ev fs y = some v) (hv : v.cells = us.toArray)
    (hsz : ∀ w, (Go.sizeOf t).run P w = .ok m w) (hl : us.length = m) (hfit : off + m ≤ Flat.sz T) (h1 : us.all (·.oneCell') = true) (hvs : (Flat.enc (Row1.sh z B0 D0)).take off ++ us ++ (Flat.enc (Row1.sh z B0 D0)).drop (off + m) = Flat.enc (Row1.sh z' B D))
    (k : ∀ a w', fB n fs a → Sat w0 M (σ.set q (hrows e e' A C (as.set i (B, D)) (zs.set i z'))) w' → wpList P ops Q rest a w') : wpList P ops Q (o :: rest) a w := by
  have hs0 : Sat w0 M (IJ e e' A C as zs i :: hown e' B D ys :: σ.eraseIdx q) w := (hs.front (q + 1) (by simpa using hq)).perm (by simp)
  obtain ⟨hs1, hlen⟩ := hs0.yH
  have hst := uz (e' := e') hz ha
  refine S.zA 0 hf hs1 hg hd (Row1.sh z' B D) us rfl (yu hz ha) ho hx hk hy hv hsz hl hfit h1 hvs (fun a w' hf hs2 => k a w' hf ?_)
  refine Sat.GZ hq (Sat.Ar (by simp [hlen]) ?_)
  have e1 : wH (zs.set i z') (as.set i (B, D)) = (wH zs as).set i (Row1.sh z' B D) := (sH (fun z (a : Option Addr × Nat) => Row1.sh z a.1 a.2) zs as i z' (B, D)).symm
  have e2 : qM e' (zs.set i z') (as.set i (B, D)) = (qM e' zs as).set i (hown e' B D ys) := by
    have := (sH (fun z (a : Option Addr × Nat) => hown e' a.1 a.2 (Row1.inner z)) zs as i z' (B, D)).symm
    rw [← hz']; exact this
  rw [e1, e2]
  have hs3 : Sat w0 M (hown e A C ((wH zs as).set i (Row1.sh z' B D)) :: ((qM e' zs as).eraseIdx i ++ hown e' B D ys :: σ.eraseIdx q)) w' := hs2
  refine hs3.perm (List.Perm.cons _ (List.perm_middle.trans ?_))
  have := (sJ i ((qM e' zs as).set i (hown e' B D ys)) _ (getElem?_set_self' _ i _ _ hst)).symm
  rw [eraseIdx_set] at this
  exact this.append_right (σ.eraseIdx q)
def rQ (e e' : TypeId) (A : Option Addr) (C : Nat) (as : List (Option Addr × Nat)) (zs : List α) (k : Nat) : gJ := FM e e' A C as zs ((qM e' zs as).drop k)
theorem zU {X : Type} : ∀ (l : List X) (k : Nat) (x : X), l[k]? = some x → l.drop k = x :: l.drop (k + 1)
  | [], _, _, h => by simp at h
  | y :: l, 0, x, h => by simp at h; simp [h]
  | y :: l, k + 1, x, h => by simp at h; simpa using zU l k x h
theorem Sat.SE {q : Nat} {p' : gJ} (hq : σ[q]? = some p) (h : Sat w0 M (p' :: σ.eraseIdx q) w) : Sat w0 M (σ.set q p') w := by
  refine h.perm ?_
  have := sJ q (σ.set q p') _ (getElem?_set_self' σ q _ _ hq)
  rw [eraseIdx_set] at this
  exact this.symm
theorem Sat.LU (hs : Sat w0 M σ w) (q : Nat) (hq : σ[q]? = some (hrows e e' A C as zs)) : Sat w0 M (σ.set q (rQ e e' A C as zs 0)) w := by
  have e1 : rQ e e' A C as zs 0 = hrows e e' A C as zs := rfl
  rw [e1, set_self σ q _ hq]; exact hs
theorem Sat.QV (hs : Sat w0 M σ w) (q : Nat) {k : Nat} (hq : σ[q]? = some (rQ e e' A C as zs k)) : as.length = zs.length := (hs.front q hq).yH.2
theorem Sat.NZ (hs : Sat w0 M σ w) (q : Nat) {k : Nat} (hq : σ[q]? = some (rQ e e' A C as zs k)) {i : Nat} {z : α} (hz : zs[i]? = some z) : ∃ (B : Option Addr) (D : Nat), as[i]? = some (B, D) :=
  ⟨_, _, List.getElem?_eq_getElem (by rw [hs.QV q hq]; exact TL hz)⟩
theorem Sat.FK (hs : Sat w0 M σ w) (q : Nat) (hq : σ[q]? = some (FM e e' A C as zs L)) {i : Nat} {z : α} (hz : zs[i]? = some z) : A.isSome = true := by
  obtain ⟨hs1, hl⟩ := (hs.front q hq).yH
  have ha : as[i]? = some (as[i]'(by rw [hl]; exact TL hz)) := List.getElem?_eq_getElem _
  exact (hs1.fQ 0 rfl).some_ (TL (yu (T := T) hz ha))
theorem Sat.IL (hs : Sat w0 M σ w) (q : Nat) {k : Nat} (hq : σ[q]? = some (rQ e e' A C as zs k)) : zs.length ≤ 9223372036854775807 := by
  obtain ⟨h, hl⟩ := (hs.front q hq).yH
  have := (h.fQ 0 rfl).iL
  rw [zH hl] at this
  exact this
theorem V.JY (q : Nat) {k : Nat} (hq : σ[q]? = some (rQ e e' A C as zs k)) {i k' off m : Nat} {z : α} {B : Option Addr} {D : Nat} (hz : zs[i]? = some z) (ha : as[i]? = some (B, D)) {t : TypeId} {x : Operand} {agg : Bool} (ho : o.op = .load t x) (hx : ev fs x = some (fA A k'))
    (hk : k' = i * Flat.sz T + off) (hag : ∀ w, (isAgg t).run P w = .ok agg w) (hsz : ∀ w, (Go.sizeOf t).run P w = .ok m w) (hl : (((Flat.enc (Row1.sh z B D)).drop off).take m).length = m) (hv : mkv agg (((Flat.enc (Row1.sh z B D)).drop off).take m) = some v) :
    ∀ a w, fB n fs a → Sat w0 M σ w → kC P o a w v := fun a w hf hs =>
  V.jh 0 rfl (yu hz ha) ho hx hk hag hsz hl hv a w hf (hs.front q hq).yH.1
theorem Sat.LM (hs : Sat w0 M σ w) (q : Nat) {k : Nat} (hq : σ[q]? = some (rQ e e' A C as zs k)) {z : α} (hz : zs[k]? = some z) : Sat w0 M (σ.set q (rQ e e' A C as zs (k + 1))) w := by
  obtain ⟨B, D, ha⟩ := hs.NZ q hq hz
  obtain ⟨hs1, hlen⟩ := (hs.front q hq).yH
  rw [zU _ _ _ (uz (e' := e') hz ha)] at hs1
  exact Sat.SE hq (Sat.Ar (e' := e') hlen ((hs1.perm (List.Perm.swap _ _ _)).drop))
theorem Sat.EP (hs : Sat w0 M σ w) (q : Nat) {k : Nat} (hq : σ[q]? = some (rQ e e' A C as zs k)) {z : α} {B : Option Addr} {D : Nat} (hz : zs[k]? = some z) (ha : as[k]? = some (B, D)) : Sat w0 M (hown e' B D (Row1.inner z) :: σ.set q (rQ e e' A C as zs (k + 1))) w := by
  obtain ⟨hs1, hlen⟩ := (hs.front q hq).yH
  rw [zU _ _ _ (uz (e' := e') hz ha)] at hs1
  have hp : (hown e A C (wH zs as) :: (hown e' B D (Row1.inner z) :: (qM e' zs as).drop (k + 1) ++ σ.eraseIdx q)).Perm (hown e A C (wH zs as) :: ((qM e' zs as).drop (k + 1) ++ hown e' B D (Row1.inner z) :: σ.eraseIdx q)) :=
    List.Perm.cons _ List.perm_middle.symm
  have h2 := Sat.Ar (e' := e') hlen (hs1.perm hp)
  have h3 : Sat w0 M (hown e' B D (Row1.inner z) :: rQ e e' A C as zs (k + 1) :: σ.eraseIdx q) w := h2.perm (List.Perm.swap _ _ _)
  refine h3.perm (List.Perm.cons _ ?_)
  have := sJ q (σ.set q (rQ e e' A C as zs (k + 1))) _ (getElem?_set_self' σ q _ _ hq)
  rw [eraseIdx_set] at this
  exact this.symm
theorem ji.SQ {Z : Nat → Prop} {σ : List gJ} : ∀ (N : Nat) {L : List gJ} {U : Nat → Prop}, L = List.replicate N (hown e' none 0 ([] : List β)) → ji w Z σ U → ji w Z (L ++ σ) U
  | 0, _, _, rfl, h => h
  | N + 1, _, U, rfl, h => ⟨fun _ => False, ⟨World.ownsRow_nil w 0 e' _, fun b => by simp [Value.ownBlock]⟩, fun _ e => e.elim, ji.SQ N rfl (ji.mono h (fun _ h => h) (fun b _ hn e => hn (e.elim id (fun e => e.elim))) (fun _ _ _ => rfl))⟩
theorem S.Pm (hf : fB n fs a) (hs : Sat w0 M σ w) {d : Nat} (hg : gv ops fs o = some true) (hd : o.dst = some d) (hdn : Nat.blt d n = true) (zero : α) {t : TypeId} {x y : Operand} {z : Int} {N bytes : Nat} (e' : TypeId)
    (hz0 : Row1.inner zero = []) (ho : o.op = .makeSlice t x y) (hx : ev fs x = some (.int .i64 z)) (hy : ev fs y = some (.int .i64 z)) (ht : P.underlying t = some (.slice e)) (hi : uY P e (Flat.sz T) bytes (Flat.enc (Row1.sh zero none 0)))
    (hmk : 0 ≤ z ∧ z * bytes ≤ 281474976710656) (hN : z.toNat = N) (h63 : z ≤ 9223372036854775807)
    (k : ∀ A a w', fB n ((d, .slice A (List.replicate N zero).length N) :: fs) a → Sat w0 M (hrows e e' A N (List.replicate N ((none : Option Addr), 0)) (List.replicate N zero) :: σ) w' → wpList P ops Q rest a w') : wpList P ops Q (o :: rest) a w := by
  refine S.make hf hs hg hd hdn (Row1.sh zero none 0) ho hx hy ht hi hmk hN h63 (fun A a w' hf hs2 => k A a w' (by simpa using hf) ?_)
  refine Sat.Ar (by simp) ?_
  have e1 : wH (List.replicate N zero) (List.replicate N ((none : Option Addr), 0)) = List.replicate N (Row1.sh zero none 0) := by unfold wH; simp
  have e2 : qM e' (List.replicate N zero) (List.replicate N ((none : Option Addr), 0)) = List.replicate N (hown e' none 0 ([] : List β)) := by unfold qM; simp [hz0]
  rw [e1, e2]
  obtain ⟨F, hp, hF, hr⟩ := hs2.sat
  exact ⟨hs2.keeps, F, hp, hF, ji.SQ N rfl hr⟩
theorem Sat.zD (hs : Sat w0 M σ w) (e e' : TypeId) : Sat w0 M (hrows e e' none 0 ([] : List (Option Addr × Nat)) ([] : List α) :: σ) w :=
  Sat.Ar rfl (hs.qi (α := T) e)
theorem S.Ff (q : Nat) (hf : fB n fs a) {B : Option Addr} {D : Nat} {ys : List β} (hs : Sat w0 M (hown e' B D ys :: σ) w) {d : Nat} (hg : gv ops fs o = some true) (hd : o.dst = some d) (hdn : Nat.blt d n = true) (z : α) (hz : Row1.inner z = ys) {x y : Operand} {t : TypeId} {A2 : Option Addr} {C2 bytes : Nat} {zc : List Value}
    (hq : σ[q]? = some (hrows e e' A C as zs)) (ho : o.op = .call ⟨.builtin .append, #[x, y], #[t, t]⟩) (hx : ev fs x = some (.slice A zs.length C)) (hy : ev fs y = some (.slice A2 1 C2)) (ht : P.underlying t = some (.slice e)) (hi : uY P e (Flat.sz T) bytes zc) (hzc : zc.length = Flat.sz T) (hroom : room (zs ++ [z]).length bytes)
    (hA2 : A2.isSome = true) (hv : View w (old w none_) A2 C2 [Row1.sh z B D])
    (k : ∀ A' C' a w', fB n ((d, .slice A' (zs ++ [z]).length C') :: fs) a → Sat w0 M (σ.set q (hrows e e' A' C' (as ++ [(B, D)]) (zs ++ [z]))) w' → wpList P ops Q rest a w') : wpList P ops Q (o :: rest) a w := by
  have hs0 : Sat w0 M (hrows e e' A C as zs :: hown e' B D ys :: σ.eraseIdx q) w := (hs.front (q + 1) (by simpa using hq)).perm (by simp)
  obtain ⟨hs1, hlen⟩ := hs0.yH
  have hsl := zH (T := T) hlen
  refine S.jq 0 hf hs1 hg hd hdn rfl ho (by rw [hsl]; exact hx) hy ht hi hzc (by rw [List.length_append, hsl]; simpa using hroom) hA2 hv (fun A' C' a w' hf hs2 => k A' C' a w' (by rw [List.length_append, hsl] at hf; simpa using hf) ?_)
  refine Sat.GZ hq (Sat.Ar (by simp [hlen]) ?_)
  have e1 : wH (zs ++ [z]) (as ++ [(B, D)]) = wH zs as ++ [Row1.sh z B D] := by unfold wH; rw [List.zipWith_append hlen.symm]; rfl
  have e2 : qM e' (zs ++ [z]) (as ++ [(B, D)]) = qM e' zs as ++ [hown e' B D ys] := by unfold qM; rw [List.zipWith_append hlen.symm, ← hz]; rfl
  rw [e1, e2, List.append_assoc]
  exact hs2
end
theorem Sat.Oy {w w0 : World} {M : Nat → Prop} {σ : List gJ} (hs : Sat w0 M σ w) (q : Nat) {g : Nat} {e : TypeId} {vs vs' : List Value} (hq : σ[q]? = some (hbox g e vs)) (hv : vs = vs') : Sat w0 M (σ.set q (hbox g e vs')) w := by
  subst hv
  rw [set_self σ q _ hq]
  exact hs
end Go.Proofs.YtbegofbmbcghdaaGreatDoor
