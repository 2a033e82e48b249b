/- Chapter texts of ours, as far as the claim needs them. -/
import Derived.Test.YtfjcgoiedlimdaaGreatDoorRtW
import Derived.Test.YtfjcgoiedlimdaaGreatDoorRtS2
import Derived.Test.YtfjcgoiedlimdaaGreatDoorRtR1
import Derived.Test.YtfjcgoiedlimdaaGreatDoorRtY
namespace Go.Proofs.YtfjcgoiedlimdaaGreatDoor
open Go Go.RowKit
set_option linter.unusedVariables false
set_option linter.unusedSectionVars false
set_option linter.unusedSimpArgs false
def Kis (G : Gr) (T : List Nat) (n : Nat) (K : Int) : Prop := Gr.FT (3 * G.N) (fun c m => ∃ a ∈ T, G.Way a n c m) K
structure H7 (g : Grid) (c : gy) (pins : List Cell) (T : List Nat) (i : Nat) (p : Cell) (d : Int) : Prop where
  at_ : pins[i]? = some p
  out : gq g p ∉ T
  key : Kis (grC g c) T (gq g p) d
  pos : 0 ≤ d
  least : ∀ (j : Nat) q K, pins[j]? = some q → gq g q ∉ T → Kis (grC g c) T (gq g q) K → 0 ≤ K → d / kB ≤ K / kB ∧ (j < i → d / kB < K / kB)
structure MR (g : Grid) (c : gy) (T : List Nat) (p : Cell) (d : Int) (keys : List Int) (start : Nat) (l : List Nat) (T' : List Nat) : Prop where
  goal : (grC g c).lY (gq g p) keys
  mem : start ∈ T
  key : keys[3 * start]? = some d
  first : ∀ n ∈ T, keys[3 * n]? = some d → start ≤ n
  goes : (grC g c).Goes keys (3 * start) l
  nodup : T'.Nodup
  free : ∀ n ∈ T', n < (grG g).N ∧ (grC g c).no n = false
  iff : ∀ n, n ∈ T' ↔ n ∈ T ∨ n ∈ (3 * start :: l).map (· / 3)
inductive iZ (g : Grid) (c : gy) (pins : List Cell) : List Nat → List (List Cell) → Bool → Prop
  | done {T : List Nat} : (∀ p ∈ pins, gq g p ∈ T) → iZ g c pins T [] true
  | fail {T : List Nat} : (∃ p ∈ pins, gq g p ∉ T) → (∀ p ∈ pins, gq g p ∉ T → Kis (grC g c) T (gq g p) (-1)) → iZ g c pins T [] false
  | step {T T' : List Nat} {i : Nat} {p : Cell} {d : Int} {keys : List Int} {start : Nat} {l : List Nat} {W : List (List Cell)} {ok : Bool} : H7 g c pins T i p d → MR g c T p d keys start l T' → iZ g c pins T' W ok → iZ g c pins T (cellsS g (3 * start :: l) :: W) ok
def rF (N : Nat) (T : List Nat) : List Bool := (List.range N).map (fun n => decide (n ∈ T))
theorem xJ {N n : Nat} {T : List Nat} (h : n < N) : (rF N T)[n]? = some (decide (n ∈ T)) := by
  unfold rF; rw [List.getElem?_map, List.getElem?_range h]; rfl
theorem F6 {N n : Nat} {T : List Nat} (h : n < N) : (rF N T).set n true = rF N (T ++ [n]) := by
  apply List.ext_getElem?
  intro i
  rw [List.getElem?_set]
  rcases Nat.lt_or_ge i N with hi | hi
  · rw [xJ hi, xJ hi]
    split
    · rename_i e; subst e; rw [if_pos (by unfold rF; simpa using hi)]; simp
    · rename_i e; congr 1; refine decide_eq_decide.2 ?_; simp; exact fun h => absurd h.symm e
  · rw [if_neg (by omega), List.getElem?_eq_none (by unfold rF; simpa using hi), List.getElem?_eq_none (by unfold rF; simpa using hi)]
theorem IQ {N : Nat} {T T' : List Nat} (h : ∀ n, n ∈ T ↔ n ∈ T') : rF N T = rF N T' := by
  unfold rF
  exact List.map_congr_left (fun n _ => decide_eq_decide.2 (h n))
theorem Ji (T : List Nat) : ∃ Z : List Nat, vK (T.map (fun n : Nat => (n : Int))) = Z.map (fun n : Nat => (n : Int)) ∧ Z.Perm T ∧ Z.Pairwise (· ≤ ·) := by
  have hp : (vK (T.map (fun n : Nat => (n : Int)))).Perm (T.map (fun n : Nat => (n : Int))) := List.mergeSort_perm _ _
  have hs : (vK (T.map (fun n : Nat => (n : Int)))).Pairwise (fun x y => decide (x ≤ y) = true) := List.pairwise_mergeSort (le := fun x y => decide (x ≤ y)) (fun a b c h1 h2 => by simp at *; omega) (fun a b => by simp; omega) _
  have hz : ∀ x ∈ vK (T.map (fun n : Nat => (n : Int))), x = ((x.toNat : Nat) : Int) := fun x hx => by
    obtain ⟨n, _, rfl⟩ := List.mem_map.1 (hp.mem_iff.1 hx)
    simp
  refine ⟨(vK (T.map (fun n : Nat => (n : Int)))).map Int.toNat, ?_, ?_, ?_⟩
  · rw [List.map_map]
    conv => lhs; rw [← List.map_id (vK _)]
    exact List.map_congr_left (fun x hx => hz x hx)
  · have := hp.map Int.toNat
    rw [List.map_map] at this
    refine this.trans (List.Perm.of_eq ?_)
    conv => rhs; rw [← List.map_id T]
    exact List.map_congr_left (fun n _ => by simp)
  · refine List.pairwise_map.2 (List.Pairwise.imp_of_mem (fun {a b} ha hb h => ?_) hs)
    have := hz a ha; have := hz b hb; simp at h; omega
section
variable {g : Grid} {c : gy} {pins : List Cell}
theorem BP {T T' : List Nat} {p : Nat} (hn : T.Nodup) (hp : p ∉ T) (hn' : T'.Nodup) (hs : ∀ n, n ∈ T ∨ n = p → n ∈ T') : T.length < T'.length := by
  have key : ∀ (A B : List Nat), A.Nodup → (∀ n ∈ A, n ∈ B) → A.length ≤ B.length := by
    intro A
    induction A with
    | nil => intro B _ _; simp
    | cons x r ih =>
      intro B hA hB
      have hx := hB x List.mem_cons_self
      have h1 := ih (B.erase x) (List.nodup_cons.1 hA).2 (fun n hnr => (List.mem_erase_of_ne (fun e => by subst e; exact (List.nodup_cons.1 hA).1 hnr)).2 (hB n (List.mem_cons_of_mem _ hnr)))
      rw [List.length_erase_of_mem hx] at h1
      have := List.length_pos_of_mem hx
      simp only [List.length_cons]; omega
  have := key (p :: T) T' (List.nodup_cons.2 ⟨hp, hn⟩) (fun n hm => hs n ((List.mem_cons.1 hm).elim .inr .inl))
  simp only [List.length_cons] at this; omega
theorem Cf {b : Nat} {keys : List Int} {G : Gr} (hT : G.lY b keys) {s : Nat} {l : List Nat} (hg : G.Goes keys s l) {d : Int} (hd : keys[s]? = some d) : b ∈ (s :: l).map (· / 3) := by
  obtain ⟨k, e, hst, _, he⟩ := hg.steps hd
  have he3 := hT.end_ he
  have hlast : ∀ (l : List Nat) (s e : Nat) (k : Int), G.Steps s l k e → e ∈ s :: l := by
    intro l s e k h
    induction h with
    | nil => simp
    | cons _ hr ih => exact List.mem_cons_of_mem _ ih
  exact List.mem_map.2 ⟨e, hlast l s e k hst, by simp at he3; omega⟩
theorem GX (hg : GOk g) (hc : COk c) (hp0 : 0 < pins.length) (hpl : pins.length ≤ 1000) (hpf : ∀ x ∈ pins, inG g x = true ∧ x ∉ g.Blocked) {Q : List (List Cell) → Bool → Prop} (h : ∀ W ok, iZ g c pins [gq g (pins.getD 0 default)] W ok → Q (if ok = true then W else []) ok) : lJ ⟨g, c, kS g⟩ pins Q := by
  have hN := hg.N
  have hf := uo hg hc
  have hnl : (kS g).length = (grG g).N := by unfold kS; simp
  have hx0 : pins[0]? = some (pins.getD 0 default) := by rw [List.getD_eq_getElem?_getD, List.getElem?_eq_getElem hp0]; rfl
  have hxg := hpf _ (List.mem_of_getElem? hx0)
  have hfr := yS (c := c) hg hxg
  unfold lJ
  simp only
  rw [hnl]
  refine ⟨⟨by omega, by omega⟩, gG (i := 0) hx0 (qH hg.sz hxg.1 ?_)⟩
  refine gG (i := 0) (xs := [(gq g (pins.getD 0 default) : Int)]) rfl ?_
  refine gG (i := gq g (pins.getD 0 default)) (List.getElem?_eq_getElem (by simp; exact hfr.1)) ?_
  rw [Int.toNat_natCast]
  generalize gq g (pins.getD 0 default) = n0 at *
  have hrep : List.replicate (grG g).N false = rF (grG g).N [] := by
    apply List.ext_getElem?
    intro i
    rcases Nat.lt_or_ge i (grG g).N with hi | hi
    · rw [xJ hi, List.getElem?_replicate, if_pos hi]; simp
    · rw [List.getElem?_eq_none (by simpa using hi), List.getElem?_eq_none (by unfold rF; simpa using hi)]
  rw [hrep, F6 hfr.1, List.nil_append]
  refine oU (fun m (s : List Bool × List Int × List (List Cell)) => ∃ T : List Nat, T.Nodup ∧ (∀ n ∈ T, n < (grG g).N ∧ (grC g c).no n = false) ∧ s.2.1 = T.map (fun n : Nat => (n : Int)) ∧ s.1 = rF (grG g).N T ∧ s.2.2.length ≤ T.length ∧ (∀ W ok, iZ g c pins T W ok → Q (if ok = true then s.2.2 ++ W else []) ok) ∧ m = (grG g).N - T.length) (n := (grG g).N - 1) ⟨[n0], by simp, fun n hn => by simp at hn; subst hn; exact hfr, rfl, rfl, by simp, fun W ok hr => by simpa using h W ok hr, by simp⟩ ?_
  rintro m ⟨l4, l5, l6⟩ X ⟨T, hnd, hfree, h5, h4, h6, hQ, hm⟩ hX
  simp only at h5 h4 h6 hQ
  subst h5; subst h4
  have hTl : T.length ≤ (grG g).N := jT _ _ hnd (fun n hn => (hfree n hn).1)
  show nG ⟨g, c, kS g⟩ pins Q (fun l4 l5 l6 => X (l4, l5, l6)) (rF (grG g).N T) (T.map (fun n : Nat => (n : Int))) l6
  unfold nG
  refine Qq (f := ⟨g, c, kS g⟩) hf hnd (fun n hn => (hfree n hn).1) (fun out hout => ?_)
  have hF : (grC g c).CJ T out := KU hg hc hfree hout
  have hlen : out.length = 3 * (grG g).N := hout.len
  have hmn : ∀ s ∈ T.map (3 * ·), s < 3 * (grG g).N := fun s hs => by obtain ⟨a, ha, rfl⟩ := List.mem_map.1 hs; have := (hfree a ha).1; omega
  have hKis : ∀ q : Cell, q ∈ pins → Kis (grC g c) T (gq g q) (Gr.o6 out (gq g q)) := fun q hq => hF.F7 (oK hg.sz (hpf q hq).1)
  have hkB : kB = 1048576 := rfl
  -- the next pin
  refine jO (fun j (s : Int × Int × Bool) => (s.2.2 = true ↔ ∃ i q, i < j ∧ pins[i]? = some q ∧ gq g q ∉ T) ∧
      ((s.1 = -1 ∧ ∀ (i : Nat) q, i < j → pins[i]? = some q → gq g q ∉ T → Gr.o6 out (gq g q) < 0) ∨
       ∃ i q, i < j ∧ pins[i]? = some q ∧ gq g q ∉ T ∧ s.1 = (gq g q : Int) ∧ 0 ≤ Gr.o6 out (gq g q) ∧ s.2.1 = Gr.o6 out (gq g q) / kB ∧ ∀ (i' : Nat) q', i' < j → pins[i']? = some q' → gq g q' ∉ T → 0 ≤ Gr.o6 out (gq g q') → s.2.1 ≤ Gr.o6 out (gq g q') / kB ∧ (i' < i → s.2.1 < Gr.o6 out (gq g q') / kB)))
    ⟨⟨fun e => (by cases e), fun ⟨i, q, hi, _⟩ => by omega⟩, .inl ⟨rfl, fun i q hi => by omega⟩⟩ (fun k x s hx hI next hnx => ?_) (fun s hI => ?_)
  · obtain ⟨n3, n4, c2⟩ := s
    simp only at hI
    obtain ⟨hI1, hI2⟩ := hI
    have hxm : x ∈ pins := List.mem_of_getElem? hx
    have hxi := (hpf x hxm).1
    have hxl := oK hg.sz hxi
    show nM ⟨g, c, kS g⟩ (rF (grG g).N T) out k x n3 n4 c2 (fun n3 n4 c2 => next (n3, n4, c2))
    unfold nM
    refine qH (g := g) hg.sz hxi (gG (xJ hxl) ?_)
    refine fB (fun e => ?_) (fun e => ?_)
    · have hin : gq g x ∈ T := by simpa using e
      refine hnx _ ⟨⟨fun hc2 => ?_, fun ⟨i, q, hi, hq, hq2⟩ => ?_⟩, ?_⟩
      · obtain ⟨i, q, a1, a2, a3⟩ := hI1.1 hc2; exact ⟨i, q, by omega, a2, a3⟩
      · rcases Nat.lt_succ_iff_lt_or_eq.1 hi with h1 | h1
        · exact hI1.2 ⟨i, q, h1, hq, hq2⟩
        · subst h1; rw [hx] at hq; injection hq with hq; subst hq; exact absurd hin hq2
      · rcases hI2 with ⟨a1, a2⟩ | ⟨i, q, a1, a2, a3, a4, a5, a6, a7⟩
        · refine .inl ⟨a1, fun i q hi hq hq2 => ?_⟩
          rcases Nat.lt_succ_iff_lt_or_eq.1 hi with h1 | h1
          · exact a2 i q h1 hq hq2
          · subst h1; rw [hx] at hq; injection hq with hq; subst hq; exact absurd hin hq2
        · refine .inr ⟨i, q, by omega, a2, a3, a4, a5, a6, fun i' q' hi hq hq2 hk => ?_⟩
          rcases Nat.lt_succ_iff_lt_or_eq.1 hi with h1 | h1
          · exact a7 i' q' h1 hq hq2 hk
          · subst h1; rw [hx] at hq; injection hq with hq; subst hq; exact absurd hin hq2
    · have hin : gq g x ∉ T := by simpa using e
      have hle := Il hg hF hmn hxl
      refine IZ (by omega) (by omega) ?_
      have hmore : true = true ↔ ∃ i q, i < k + 1 ∧ pins[i]? = some q ∧ gq g q ∉ T := ⟨fun _ => ⟨k, x, by omega, hx, hin⟩, fun _ => rfl⟩
      generalize hK : Gr.o6 out (gq g x) = K at hle
      have stay : (K < 0 ∨ ∃ i q, i < k ∧ pins[i]? = some q ∧ gq g q ∉ T ∧ n3 = (gq g q : Int) ∧ ¬ K / kB < n4 ∧ 0 ≤ K) → jM n3 n4 (fun n3 n4 c2 => next (n3, n4, c2)) (gq g x : Int) K false := fun hs => by
        unfold jM
        simp only [gY]
        refine hnx _ ⟨hmore, ?_⟩
        rcases hI2 with ⟨a1, a2⟩ | ⟨i, q, a1, a2, a3, a4, a5, a6, a7⟩
        · rcases hs with hs | ⟨i, q, _, _, _, hs, _⟩
          · refine .inl ⟨a1, fun i q hi hq hq2 => ?_⟩
            rcases Nat.lt_succ_iff_lt_or_eq.1 hi with h1 | h1
            · exact a2 i q h1 hq hq2
            · subst h1; rw [hx] at hq; injection hq with hq; subst hq; rw [hK]; exact hs
          · omega
        · refine .inr ⟨i, q, by omega, a2, a3, a4, a5, a6, fun i' q' hi hq hq2 hk => ?_⟩
          rcases Nat.lt_succ_iff_lt_or_eq.1 hi with h1 | h1
          · exact a7 i' q' h1 hq hq2 hk
          · subst h1; rw [hx] at hq; injection hq with hq; subst hq
            rw [hK] at hk ⊢
            rcases hs with hs | ⟨_, _, _, _, _, _, hs, _⟩
            · omega
            · simp only; exact ⟨by omega, fun hh => by omega⟩
      have turn : 0 ≤ K → (n3 < 0 ∨ K / kB < n4) → jM n3 n4 (fun n3 n4 c2 => next (n3, n4, c2)) (gq g x : Int) K true := fun hk0 hs => by
        unfold jM
        simp only [iJ]
        rw [show w64 (K.tdiv 1048576) = K / kB by rw [Int.tdiv_eq_ediv_of_nonneg hk0, hkB]; exact fO (by omega) (by omega)]
        refine hnx _ ⟨hmore, .inr ⟨k, x, by omega, hx, hin, rfl, by rw [hK]; exact hk0, by rw [hK], fun i' q' hi hq hq2 hk => ?_⟩⟩
        simp only
        rcases Nat.lt_succ_iff_lt_or_eq.1 hi with h1 | h1
        · rcases hI2 with ⟨a1, a2⟩ | ⟨i, q, a1, a2, a3, a4, a5, a6, a7⟩
          · have := a2 i' q' h1 hq hq2; omega
          · have hn3 : ¬ n3 < 0 := by omega
            have := (a7 i' q' h1 hq hq2 hk).1
            rcases hs with hs | hs
            · exact absurd hs hn3
            · exact ⟨by omega, fun _ => by omega⟩
        · subst h1; rw [hx] at hq; injection hq with hq; subst hq; rw [hK]; exact ⟨Int.le_refl _, fun hh => by omega⟩
      refine fB (fun e1 => ?_) (fun e1 => stay (.inl (by simp at e1; omega)))
      have hk0 : 0 ≤ K := by simpa using e1
      refine fB (fun e2 => turn hk0 (.inl (by simpa using e2))) (fun e2 => ?_)
      rw [show w64 (K.tdiv 1048576) = K / kB by rw [Int.tdiv_eq_ediv_of_nonneg hk0, hkB]; exact fO (by omega) (by omega)]
      by_cases e3 : K / kB < n4
      · rw [decide_eq_true e3]; exact turn hk0 (.inr e3)
      · rw [decide_eq_false e3]
        rcases hI2 with ⟨a1, a2⟩ | ⟨i, q, a1, a2, a3, a4, a5, a6, a7⟩
        · simp at e2; omega
        · exact stay (.inr ⟨i, q, a1, a2, a3, a4, e3, hk0⟩)
  · obtain ⟨n3, n4, c2⟩ := s
    simp only at hI
    obtain ⟨hI1, hI2⟩ := hI
    have hidx : ∀ q ∈ pins, ∃ i, i < pins.length ∧ pins[i]? = some q := fun q hq => by
      obtain ⟨i, hi⟩ := List.getElem?_of_mem hq; exact ⟨i, dO hi, hi⟩
    refine fB (fun e => ?_) (fun e => ?_)
    · have hc2 : c2 = false := by simpa using e
      have := hQ [] true (.done (fun q hq => by
        by_cases hin : gq g q ∈ T
        · exact hin
        · obtain ⟨i, hi, hq2⟩ := hidx q hq
          have := hI1.2 ⟨i, q, hi, hq2, hin⟩
          rw [hc2] at this; cases this))
      simpa using this
    · have hc2 : c2 = true := by simpa using e
      refine fB (fun e2 => ?_) (fun e2 => ?_)
      · have hn3 : n3 < 0 := by simpa using e2
        rcases hI2 with ⟨a1, a2⟩ | ⟨i, q, a1, a2, a3, a4, a5, a6, a7⟩
        · obtain ⟨i, q, b1, b2, b3⟩ := hI1.1 hc2
          have := hQ [] false (.fail ⟨q, List.mem_of_getElem? b2, b3⟩ (fun q' hq' hq2 => by
            obtain ⟨i', hi', hq3⟩ := hidx q' hq'
            have h1 := a2 i' q' hi' hq3 hq2
            have h2 := hKis q' hq'
            have h3 := (Il hg hF hmn (oK hg.sz (hpf q' hq').1)).1
            rw [show Gr.o6 out (gq g q') = -1 by omega] at h2
            exact h2))
          simpa using this
        · omega
      · have hn3 : ¬ n3 < 0 := by simpa using e2
        rcases hI2 with ⟨a1, a2⟩ | ⟨i, p, a1, a2, a3, a4, a5, a6, a7⟩
        · omega
        have hpm : p ∈ pins := List.mem_of_getElem? a2
        have hpi := hpf p hpm
        have hpl2 := oK hg.sz hpi.1
        subst a4
        generalize hd : Gr.o6 out (gq g p) = d at *
        have hKp : Kis (grC g c) T (gq g p) d := by rw [← hd]; exact hKis p hpm
        have hpick : H7 g c pins T i p d := ⟨a2, a3, hKp, a5, fun j q K hj hq hK hK0 => by
          have hqm : q ∈ pins := List.mem_of_getElem? hj
          have he : Gr.o6 out (gq g q) = K := (hKis q hqm).eq hK (fun _ _ => Iff.rfl)
          have := a7 j q (dO hj) hj hq (by rw [he]; exact hK0)
          rw [he, a6] at this; exact this⟩
        refine QB hf hpl2 (fun keys hkeys => ?_)
        have hG := DX hg hc hpi hkeys
        refine ⟨by rw [List.length_map]; omega, ?_⟩
        obtain ⟨Z, hZ, hZp, hZs⟩ := Ji T
        rw [hZ]
        have hklen : keys.length = 3 * (grG g).N := hkeys.len
        have hkget : ∀ n ∈ T, keys[3 * n]? = some (keys.getD (3 * n) (-1)) := fun n hn => by
          have := (hfree n hn).1
          rw [List.getD_eq_getElem?_getD, List.getElem?_eq_getElem (show 3 * n < keys.length by omega)]; rfl
        have hkle : ∀ n ∈ T, d ≤ keys.getD (3 * n) (-1) ∨ keys.getD (3 * n) (-1) < 0 := fun n hn => by
          by_cases h0 : 0 ≤ keys.getD (3 * n) (-1)
          · left
            rcases hG.F7 (hkget n hn) with ⟨h1, _⟩ | ⟨_, ⟨cc, mm, hw, he, _, _⟩, _⟩
            · omega
            · rcases hKp with ⟨h1, _⟩ | ⟨_, _, h3⟩
              · omega
              · have := h3 cc mm ⟨n, hn, hw⟩; omega
          · right; omega
        have hkex : ∃ n ∈ T, keys.getD (3 * n) (-1) = d := by
          rcases hKp with ⟨h1, _⟩ | ⟨_, ⟨cc, mm, ⟨n, hn, hw⟩, he, _, _⟩, _⟩
          · omega
          · refine ⟨n, hn, ?_⟩
            rcases hG.F7 (hkget n hn) with ⟨h1, h2⟩ | ⟨h1, _, h3⟩
            · exact absurd hw (h2 _ _)
            · have := h3 cc mm hw
              rcases hkle n hn with h4 | h4 <;> omega
        have hZT : ∀ n, n ∈ Z ↔ n ∈ T := fun n => hZp.mem_iff
        -- the first of the nearest cells
        refine jO (fun j (n6 : Int) => (n6 = -1 ∧ ∀ (i : Nat) n, i < j → Z[i]? = some n → keys.getD (3 * n) (-1) < 0) ∨ ∃ i n, i < j ∧ Z[i]? = some n ∧ n6 = (n : Int) ∧ 0 ≤ keys.getD (3 * n) (-1) ∧ ∀ (i' : Nat) n', i' < j → Z[i']? = some n' → 0 ≤ keys.getD (3 * n') (-1) → keys.getD (3 * n) (-1) ≤ keys.getD (3 * n') (-1) ∧ (i' < i → keys.getD (3 * n) (-1) < keys.getD (3 * n') (-1)))
          (.inl ⟨rfl, fun i n hi => by omega⟩) (fun k x n6 hx hJ next hnx => ?_) (fun n6 hJ => ?_)
        · rw [List.getElem?_map] at hx
          obtain ⟨n, hn, rfl⟩ := Option.map_eq_some_iff.1 hx
          have hnT : n ∈ T := (hZT n).1 (List.mem_of_getElem? hn)
          have hnl2 := (hfree n hnT).1
          unfold nI
          rw [show w64 (3 * (n : Int)) = ((3 * n : Nat) : Int) by rw [fO] <;> omega]
          refine gG (hkget n hnT) ?_
          generalize hkn : keys.getD (3 * n) (-1) = kn at *
          have stay : (kn < 0 ∨ ∃ i n', i < k ∧ Z[i]? = some n' ∧ n6 = (n' : Int) ∧ ¬ kn < keys.getD (3 * n') (-1) ∧ 0 ≤ kn) → jK (n : Int) n6 next false := fun hs => by
            unfold jK
            simp only [gY]
            refine hnx _ ?_
            rcases hJ with ⟨b1, b2⟩ | ⟨i, n', b1, b2, b3, b4, b5⟩
            · rcases hs with hs | ⟨i, n', _, _, hs, _⟩
              · refine .inl ⟨b1, fun i n2 hi hn2 => ?_⟩
                rcases Nat.lt_succ_iff_lt_or_eq.1 hi with h1 | h1
                · exact b2 i n2 h1 hn2
                · subst h1; rw [hn] at hn2; injection hn2 with hn2; subst hn2; rw [hkn]; exact hs
              · omega
            · refine .inr ⟨i, n', by omega, b2, b3, b4, fun i' n2 hi hn2 hk => ?_⟩
              rcases Nat.lt_succ_iff_lt_or_eq.1 hi with h1 | h1
              · exact b5 i' n2 h1 hn2 hk
              · subst h1; rw [hn] at hn2; injection hn2 with hn2; subst hn2
                rw [hkn] at hk ⊢
                rcases hs with hs | ⟨_, n3, _, _, hs1, hs2, _⟩
                · omega
                · have : n3 = n' := by omega
                  subst this; exact ⟨by omega, fun hh => by omega⟩
          have turn : 0 ≤ kn → (n6 < 0 ∨ ∃ i n', i < k ∧ Z[i]? = some n' ∧ n6 = (n' : Int) ∧ kn < keys.getD (3 * n') (-1)) → jK (n : Int) n6 next true := fun hk0 hs => by
            unfold jK
            simp only [iJ]
            refine hnx _ (.inr ⟨k, n, by omega, hn, rfl, by rw [hkn]; exact hk0, fun i' n2 hi hn2 hk => ?_⟩)
            rw [hkn]
            rcases Nat.lt_succ_iff_lt_or_eq.1 hi with h1 | h1
            · rcases hJ with ⟨b1, b2⟩ | ⟨i, n', b1, b2, b3, b4, b5⟩
              · have := b2 i' n2 h1 hn2; omega
              · have h9 := (b5 i' n2 h1 hn2 hk).1
                rcases hs with hs | ⟨_, n3, _, _, hs1, hs2⟩
                · omega
                · have : n3 = n' := by omega
                  subst this; exact ⟨by omega, fun _ => by omega⟩
            · subst h1; rw [hn] at hn2; injection hn2 with hn2; subst hn2; rw [hkn]; exact ⟨Int.le_refl _, fun hh => by omega⟩
          refine fB (fun f1 => ?_) (fun f1 => stay (.inl (by simp at f1; omega)))
          have hk0 : 0 ≤ kn := by simpa using f1
          refine fB (fun f2 => turn hk0 (.inl (by simpa using f2))) (fun f2 => ?_)
          rcases hJ with ⟨b1, b2⟩ | ⟨i, n', b1, b2, b3, b4, b5⟩
          · simp at f2; omega
          have hn'T : n' ∈ T := (hZT n').1 (List.mem_of_getElem? b2)
          have hn'l := (hfree n' hn'T).1
          rw [b3, show w64 (3 * (n' : Int)) = ((3 * n' : Nat) : Int) by rw [fO] <;> omega]
          refine gG (hkget n' hn'T) ?_
          rw [← b3]
          by_cases f3 : kn < keys.getD (3 * n') (-1)
          · rw [decide_eq_true f3]; exact turn hk0 (.inr ⟨i, n', b1, b2, b3, f3⟩)
          · rw [decide_eq_false f3]; exact stay (.inr ⟨i, n', b1, b2, b3, f3, hk0⟩)
        · rw [List.length_map] at hJ
          obtain ⟨nx, hnxT, hnxd⟩ := hkex
          obtain ⟨ix, hix⟩ := List.getElem?_of_mem ((hZT nx).2 hnxT)
          rcases hJ with ⟨b1, b2⟩ | ⟨i0, start, b1, b2, b3, b4, b5⟩
          · have := b2 ix nx (dO hix) hix; omega
          have hsT : start ∈ T := (hZT start).1 (List.mem_of_getElem? b2)
          have hsl := (hfree start hsT).1
          have hsd : keys.getD (3 * start) (-1) = d := by
            have h1 := (b5 ix nx (dO hix) hix (by omega)).1
            rcases hkle start hsT with h2 | h2 <;> omega
          have hskey : keys[3 * start]? = some d := by rw [← hsd]; exact hkget start hsT
          have hfirst : ∀ n ∈ T, keys[3 * n]? = some d → start ≤ n := fun n hn hnd2 => by
            obtain ⟨i', hi'⟩ := List.getElem?_of_mem ((hZT n).2 hn)
            have hke : keys.getD (3 * n) (-1) = d := by rw [List.getD_eq_getElem?_getD, hnd2]; rfl
            have h1 := (b5 i' n (dO hi') hi' (by omega)).2
            have h2 : i0 ≤ i' := by
              by_cases hh : i' < i0
              · have := h1 hh; omega
              · omega
            rcases Nat.lt_or_eq_of_le h2 with h3 | h3
            · have hl1 := dO b2; have hl2 := dO hi'
              have := List.pairwise_iff_getElem.1 hZs i0 i' hl1 hl2 h3
              rw [List.getElem?_eq_getElem hl1] at b2; rw [List.getElem?_eq_getElem hl2] at hi'
              injection b2 with b2; injection hi' with hi'
              omega
            · subst h3; rw [b2] at hi'; injection hi' with hi'; omega
          subst b3
          refine I5 (f := ⟨g, c, kS g⟩) hf hG hsl hskey a5 (fun l hgo => ?_)
          obtain ⟨hgl, hgall⟩ := zW hG hgo hskey a5
          have hgl' : (3 * start :: l).length ≤ (grG g).N := hgl
          -- the new cells
          refine jO (fun j (s : List Int × List Bool) => ∃ T9 : List Nat, s.1 = T9.map (fun n : Nat => (n : Int)) ∧ s.2 = rF (grG g).N T9 ∧ T9.Nodup ∧ (∀ n ∈ T9, n < (grG g).N ∧ (grC g c).no n = false) ∧ ∀ n, n ∈ T9 ↔ n ∈ T ∨ n ∈ ((3 * start :: l).map (· / 3)).take j)
            ⟨Z, rfl, IQ (fun n => (hZT n).symm), hZp.nodup_iff.2 hnd, fun n hn => hfree n ((hZT n).1 hn), fun n => by rw [hZT]; simp⟩ (fun k x s hx hJ next hnx => ?_) (fun s hJ => ?_)
          · obtain ⟨l9, l10⟩ := s
            obtain ⟨T9, c1, c2', c3, c4, c5⟩ := hJ
            simp only at c1 c2'
            subst c1; subst c2'
            rw [List.getElem?_map] at hx
            obtain ⟨t, ht, rfl⟩ := Option.map_eq_some_iff.1 hx
            obtain ⟨t1, t2⟩ := hgall t (List.mem_of_getElem? ht)
            have t1' : t / 3 < (grG g).N := by have : t < 3 * (grG g).N := t1; omega
            have htk : ((3 * start :: l).map (· / 3)).take (k + 1) = ((3 * start :: l).map (· / 3)).take k ++ [t / 3] := by
              rw [List.take_add_one, List.getElem?_map, ht]; rfl
            have hT9l := jT _ _ c3 (fun n hn => (c4 n hn).1)
            show kD k ((t / 3 : Nat) : Int) (T9.map (fun n : Nat => (n : Int))) (rF (grG g).N T9) (fun l9 l10 => next (l9, l10))
            unfold kD
            refine gG (xJ t1') ?_
            refine fB (fun f1 => ?_) (fun f1 => ?_)
            · have hnin : t / 3 ∉ T9 := by simpa using f1
              refine ⟨uJ (by simp only [List.length_append, List.length_map, List.length_singleton]; omega) (by decide), ?_⟩
              rw [Int.toNat_natCast, F6 t1']
              refine hnx _ ⟨T9 ++ [t / 3], by simp, rfl, ?_, fun n hn => ?_, fun n => ?_⟩
              · rw [List.nodup_append]; exact ⟨c3, by simp, fun a ha b hb => by simp at hb; subst hb; exact fun e => hnin (e ▸ ha)⟩
              · rcases List.mem_append.1 hn with h1 | h1
                · exact c4 n h1
                · simp at h1; subst h1; exact ⟨t1', t2⟩
              · rw [htk, List.mem_append, List.mem_append, c5]; exact or_assoc
            · have hin : t / 3 ∈ T9 := by simpa using f1
              refine hnx _ ⟨T9, rfl, rfl, c3, c4, fun n => ?_⟩
              rw [htk, List.mem_append, c5]
              constructor
              · rintro (h1 | h1)
                · exact .inl h1
                · exact .inr (.inl h1)
              · rintro (h1 | h1 | h1)
                · exact .inl h1
                · exact .inr h1
                · simp at h1; subst h1; exact (c5 _).1 hin
          · obtain ⟨l9, l10⟩ := s
            obtain ⟨T9, c1, c2', c3, c4, c5⟩ := hJ
            simp only at c1 c2'
            subst c1; subst c2'
            rw [List.length_map] at c5
            have c5' : ∀ n, n ∈ T9 ↔ n ∈ T ∨ n ∈ (3 * start :: l).map (· / 3) := fun n => by
              rw [c5 n, List.take_of_length_le (by rw [List.length_map]; exact Nat.le_refl _)]
            have hway : MR g c T p d keys start l T9 := ⟨hG, hsT, hskey, hfirst, hgo, c3, c4, c5'⟩
            have hgrow := BP hnd a3 c3 (fun n hn => (c5' n).2 (by
              rcases hn with h1 | h1
              · exact .inl h1
              · subst h1; exact .inr (Cf hG hgo hskey)))
            have hT9l := jT _ _ c3 (fun n hn => (c4 n hn).1)
            refine FX (f := ⟨g, c, kS g⟩) hf (fun t ht => (hgall t ht).1) (by omega) hg.sz ?_
            refine ⟨uJ (by simp only [List.length_append, List.length_singleton]; omega) (by decide), ?_⟩
            refine hX ((grG g).N - T9.length) _ (by omega) ⟨T9, c3, c4, rfl, rfl, by simp only [List.length_append, List.length_singleton]; omega, fun W ok hr => ?_, rfl⟩
            have := hQ _ ok (.step hpick hway hr)
            simp only [List.append_assoc, List.singleton_append]
            exact this
end
section
variable {g : Grid} {c : gy} {pins : List Cell}
theorem iZ.len {T : List Nat} {W : List (List Cell)} {ok : Bool} (h : iZ g c pins T W ok) (hn : T.Nodup) (hf : ∀ n ∈ T, n < (grG g).N) : W.length + T.length ≤ (grG g).N := by
  induction h with
  | done _ => have := jT _ _ hn hf; simpa using this
  | fail _ _ => have := jT _ _ hn hf; simpa using this
  | step hp hw hr ih =>
    have := ih hw.nodup (fun n hn => (hw.free n hn).1)
    have := BP hn hp.out hw.nodup (fun n h => (hw.iff n).2 (by
      rcases h with h | h
      · exact .inl h
      · subst h; exact .inr (Cf hw.goal hw.goes hw.key)))
    simp only [List.length_cons]; omega
theorem iZ.right (hg : GOk g) (hc : COk c) {T : List Nat} {W : List (List Cell)} {ok : Bool} (h : iZ g c pins T W ok) : ∀ w ∈ W, CO g w = 0 := by
  induction h with
  | done _ => intro w hw; cases hw
  | fail _ _ => intro w hw; cases hw
  | step hp hw hr ih =>
    intro w hm
    rcases List.mem_cons.1 hm with h1 | h1
    · subst h1; exact (Nj hg hc hw.goal (by omega) hw.key hp.pos hw.goes).1
    · exact ih w h1
theorem Eo {l : List Nat} {n : Nat} (h : n ∈ l.map (· / 3)) : gK g n ∈ cellsS g l := by
  obtain ⟨t, ht, rfl⟩ := List.mem_map.1 h
  exact List.mem_map.2 ⟨t, ht, rfl⟩
theorem iZ.ord {T : List Nat} {W : List (List Cell)} {ok : Bool} (h : iZ g c pins T W ok) : ∀ (j : Nat) w, W[j]? = some w → ∃ x ∈ w, (∃ n ∈ T, x = gK g n) ∨ ∃ (i : Nat) (v : List Cell), i < j ∧ W[i]? = some v ∧ x ∈ v := by
  induction h with
  | done _ => intro j w hw; simp at hw
  | fail _ _ => intro j w hw; simp at hw
  | @step T T' i p d keys start l W ok hp hw hr ih =>
    intro j w hj
    cases j with
    | zero =>
      simp at hj; subst hj
      exact ⟨gK g start, Eo (by simp), .inl ⟨start, hw.mem, rfl⟩⟩
    | succ j =>
      simp at hj
      obtain ⟨x, hx, h1⟩ := ih j w hj
      refine ⟨x, hx, ?_⟩
      rcases h1 with ⟨n, hn, rfl⟩ | ⟨i, v, hi, hv, hxv⟩
      · rcases (hw.iff n).1 hn with h2 | h2
        · exact .inl ⟨n, h2, rfl⟩
        · exact .inr ⟨0, _, by omega, rfl, Eo h2⟩
      · exact .inr ⟨i + 1, v, by omega, by simpa using hv, hxv⟩
theorem iZ.cov (hg : GOk g) (hpf : ∀ x ∈ pins, inG g x = true ∧ x ∉ g.Blocked) {T : List Nat} {W : List (List Cell)} {ok : Bool} (h : iZ g c pins T W ok) (hok : ok = true) : ∀ p ∈ pins, gq g p ∈ T ∨ ∃ v ∈ W, p ∈ v := by
  induction h with
  | done hd => intro p hp; exact .inl (hd p hp)
  | fail _ _ => cases hok
  | @step T T' i p d keys start l W ok hp hw hr ih =>
    intro q hq
    rcases ih hok q hq with h1 | ⟨v, hv, h2⟩
    · rcases (hw.iff _).1 h1 with h2 | h2
      · exact .inl h2
      · refine .inr ⟨_, List.mem_cons_self, ?_⟩
        have := Eo (g := g) h2
        rwa [xM hg.sz (hpf q hq).1] at this
    · exact .inr ⟨v, List.mem_cons_of_mem _ hv, h2⟩
end
end Go.Proofs.YtfjcgoiedlimdaaGreatDoor
