/- Chapter 10: how many are needed: plain. -/
import Derived.Test.YtcmlcgjjkccaeaaDoorDoorJ
import Derived.Test.YtcmlcgjjkccaeaaDoorBulk
namespace Go.Proofs.YtcmlcgjjkccaeaaDoor
open Go Go.RowKit
set_option linter.unusedVariables false

/-! ### maps with each key once -/
theorem keys_put {K V : Type} [DecidableEq K] (k : K) (v : V) (x : K) : ∀ (m : List (K × V)), x ∈ (mput m k v).map (·.1) → x = k ∨ x ∈ m.map (·.1)
  | [], h => by simp [mput] at h; exact .inl h
  | p :: r, h => by
    unfold mput at h
    split at h
    · rename_i e
      simp only [List.map_cons, List.mem_cons] at h ⊢
      rcases h with h | h
      · exact .inl h
      · exact .inr (.inr h)
    · simp only [List.map_cons, List.mem_cons] at h ⊢
      rcases h with h | h
      · exact .inr (.inl h)
      · rcases keys_put k v x r h with h | h
        · exact .inl h
        · exact .inr (.inr h)
theorem nodup_put {K V : Type} [DecidableEq K] (k : K) (v : V) : ∀ (m : List (K × V)), (m.map (·.1)).Nodup → ((mput m k v).map (·.1)).Nodup
  | [], _ => by simp [mput]
  | p :: r, h => by
    rw [List.map_cons, List.nodup_cons] at h
    unfold mput
    split
    · rename_i e
      rw [List.map_cons, List.nodup_cons]
      exact ⟨by rw [← e]; exact h.1, h.2⟩
    · rename_i e
      rw [List.map_cons, List.nodup_cons]
      refine ⟨fun hm => ?_, nodup_put k v r h.2⟩
      rcases keys_put k v p.1 r hm with hm | hm
      · exact e hm
      · exact h.1 hm
theorem mget_iff {K V : Type} [DecidableEq K] (k : K) (v : V) : ∀ (m : List (K × V)), (m.map (·.1)).Nodup → (mget m k = some v ↔ (k, v) ∈ m)
  | [], _ => by simp [mget]
  | p :: r, h => by
    rw [List.map_cons, List.nodup_cons] at h
    have ih := mget_iff k v r h.2
    unfold mget at ih ⊢
    rw [List.find?_cons]
    by_cases e : p.1 = k
    · simp only [e, decide_true, Option.map_some, Option.some.injEq, List.mem_cons]
      constructor
      · intro hv; exact .inl (by rw [← e, ← hv])
      · rintro (hv | hv)
        · rw [← hv]
        · exact absurd (List.mem_map.2 ⟨(k, v), hv, rfl⟩) (by rw [← e]; exact h.1)
    · simp only [e, decide_false, List.mem_cons]
      rw [ih]
      constructor
      · exact .inr
      · rintro (hv | hv)
        · exact absurd (by rw [← hv]) e
        · exact hv
/-! ### what is above 0, by its key -/
def posOf (m : List (Str × Int)) : List Count := (m.filter (fun p => decide (p.2 > 0))).map (fun p => ⟨p.1, p.2⟩)
theorem mem_posOf {m : List (Str × Int)} {c : Count} : c ∈ posOf m ↔ (c.Typ, c.Many) ∈ m ∧ 0 < c.Many := by
  unfold posOf
  rw [List.mem_map]
  constructor
  · rintro ⟨p, hp, rfl⟩
    rw [List.mem_filter] at hp
    exact ⟨hp.1, by simpa using hp.2⟩
  · rintro ⟨h1, h2⟩
    exact ⟨(c.Typ, c.Many), List.mem_filter.2 ⟨h1, by simpa using h2⟩, rfl⟩
theorem posOf_nodup {m : List (Str × Int)} (h : (m.map (·.1)).Nodup) : (posOf m).Nodup := by
  unfold posOf
  have h1 : (((m.filter (fun p => decide (p.2 > 0))).map (fun p => (⟨p.1, p.2⟩ : Count))).map (·.Typ)).Nodup := by
    rw [List.map_map]
    exact (List.Sublist.map _ List.filter_sublist).nodup h
  exact List.Pairwise.imp (fun hab e => hab (by rw [e])) (List.pairwise_map.1 h1)
theorem counts_is {m : List (Str × Int)} (hk : (m.map (·.1)).Nodup) {B : List Count} (hB : B.Pairwise (fun a b => strLt a.Typ b.Typ = true)) (hmem : ∀ c, c ∈ B ↔ 0 < c.Many ∧ mget m c.Typ = some c.Many) {t : List Count} {seen : List (Str × Int)}
    (hp : m.Perm seen) (ht : t.Perm (posOf seen)) (hs : t.Pairwise (fun a b => ¬ cmpCounts b a < 0)) : t = B := by
  have hks : (seen.map (·.1)).Nodup := (hp.map _).nodup_iff.1 hk
  have hBn : B.Nodup := List.Pairwise.imp (fun hab e => by rw [e, strLt_irrefl] at hab; cases hab) hB
  have htB : t.Perm B := ht.trans ((List.perm_ext_iff_of_nodup (posOf_nodup hks) hBn).2 (fun c => by
    rw [mem_posOf, hmem, mget_iff _ _ _ hk, ← hp.mem_iff]; exact And.comm))
  refine List.Perm.eq_of_pairwise (le := fun a b => ¬ cmpCounts b a < 0) (fun a b ha hb h1 h2 => ?_) hs (List.Pairwise.imp (fun {a b} hab => ?_) hB) htB
  · rw [cmpCounts_lt] at h1 h2
    have hty : a.Typ = b.Typ := by
      rcases strLt_total a.Typ b.Typ with e | e | e
      · exact e
      · exact absurd e h2
      · exact absurd e h1
    have h3 := ((hmem a).1 (htB.mem_iff.1 ha)).2
    have h4 := ((hmem b).1 hb).2
    rw [hty, h4] at h3
    injection h3 with h3
    cases a; cases b
    simp only at hty h3
    rw [hty, h3]
  · rw [cmpCounts_lt]
    intro hba
    have := strLt_trans _ _ _ hab hba
    rw [strLt_irrefl] at this; cases this
/-! ### how many parts of a type are needed -/
def cntT (l : List Place) (t : Str) : Nat := l.countP (fun p => p.Typ == t)
theorem cntT_succ {l : List Place} {k : Nat} {x : Place} (hx : l[k]? = some x) (t : Str) : cntT (l.take (k + 1)) t = cntT (l.take k) t + (if x.Typ = t then 1 else 0) := by
  unfold cntT
  rw [List.take_add_one, hx, List.countP_append]
  by_cases h : x.Typ = t <;> simp [h]
theorem cntT_le (l : List Place) (t : Str) (k : Nat) : cntT (l.take k) t ≤ l.length := by
  unfold cntT
  refine Nat.le_trans List.countP_le_length ?_
  rw [List.length_take]; omega
def needStep (boards : Int) (m : List (Str × Int)) (p : Place) : List (Str × Int) := mput m p.Typ (w64 ((mget m p.Typ).getD 0 + boards))
def needMap (l : List Place) (boards : Int) (k : Nat) : List (Str × Int) := (l.take k).foldl (needStep boards) []
theorem needMap_succ {l : List Place} {boards : Int} {k : Nat} {x : Place} (hx : l[k]? = some x) : needMap l boards (k + 1) = needStep boards (needMap l boards k) x := by
  unfold needMap; rw [List.take_add_one, hx, List.foldl_append]; rfl
theorem needMap_keys (l : List Place) (boards : Int) : ∀ k, k ≤ l.length → ((needMap l boards k).map (·.1)).Nodup
  | 0, _ => by simp [needMap]
  | k + 1, h => by
    rw [needMap_succ (List.getElem?_eq_getElem (by omega))]
    exact nodup_put _ _ _ (needMap_keys l boards k (by omega))
theorem needMap_get {l : List Place} {boards : Int} (hb : 0 ≤ boards ∧ boards ≤ 1000) (hl : l.length ≤ 1000) (t : Str) : ∀ k, k ≤ l.length → (mget (needMap l boards k) t).getD 0 = boards * (cntT (l.take k) t : Int)
  | 0, _ => by simp [needMap, mget, cntT]
  | k + 1, h => by
    have hx : l[k]? = some (l[k]'(by omega)) := List.getElem?_eq_getElem (by omega)
    have ih := needMap_get hb hl t k (by omega)
    rw [needMap_succ hx, cntT_succ hx]
    unfold needStep
    rw [mget_put]
    by_cases e : (l[k]'(by omega)).Typ = t
    · rw [if_pos e, if_pos e, Option.getD_some, e, ih]
      have h1 := cntT_le l t k
      have h2 : boards * (cntT (l.take k) t : Int) ≤ 1000 * 1000 := Int.mul_le_mul hb.2 (by omega) (by omega) (by omega)
      have h3 : 0 ≤ boards * (cntT (l.take k) t : Int) := Int.mul_nonneg hb.1 (by omega)
      rw [w64_id (by omega) (by omega), Int.natCast_add, Int.mul_add]
      simp
    · rw [if_neg e, if_neg e, Nat.add_zero]; exact ih
def needOf (l : List Place) (boards : Int) (t : Str) : Int := boards * (cntT l t : Int)
def neededOf (b : List Body) (l : List Place) (boards : Int) : List Count := (b.filter (fun x => decide (0 < needOf l boards x.Typ))).map (fun x => ⟨x.Typ, needOf l boards x.Typ⟩)
theorem bodies_pairwise {b : List Body} (hb : BodiesOk b) : b.Pairwise (fun x y => strLt x.Typ y.Typ = true) := by
  rw [List.pairwise_iff_getElem]
  intro i j hi hj hij
  exact rising_mono hb.rise (List.getElem?_eq_getElem hi) (List.getElem?_eq_getElem hj) hij
theorem neededOf_rises {b : List Body} (hb : BodiesOk b) (l : List Place) (boards : Int) : (neededOf b l boards).Pairwise (fun a b => strLt a.Typ b.Typ = true) := by
  unfold neededOf
  rw [List.pairwise_map]
  exact (bodies_pairwise hb).sublist List.filter_sublist
theorem mem_neededOf {b : List Body} {l : List Place} {boards : Int} (hp : PlacesOk b l) (hb : 0 ≤ boards ∧ boards ≤ 1000) (c : Count) : c ∈ neededOf b l boards ↔ 0 < c.Many ∧ mget (needMap l boards l.length) c.Typ = some c.Many := by
  have hg := fun t => needMap_get hb hp.len t l.length (Nat.le_refl _)
  simp only [List.take_length] at hg
  unfold neededOf
  rw [List.mem_map]
  constructor
  · rintro ⟨x, hx, rfl⟩
    rw [List.mem_filter] at hx
    have h1 : 0 < needOf l boards x.Typ := by simpa using hx.2
    refine ⟨h1, ?_⟩
    have h2 := hg x.Typ
    show mget (needMap l boards l.length) x.Typ = some (needOf l boards x.Typ)
    cases h3 : mget (needMap l boards l.length) x.Typ with
    | none => rw [h3] at h2; unfold needOf at h1; rw [← h2] at h1; simp at h1
    | some v => rw [h3] at h2; rw [show needOf l boards x.Typ = v from h2.symm]
  · rintro ⟨h1, h2⟩
    have h3 := hg c.Typ
    rw [h2, Option.getD_some] at h3
    have h4 : 0 < cntT l c.Typ := by
      rcases Nat.eq_zero_or_pos (cntT l c.Typ) with e | e
      · rw [e] at h3; simp at h3; omega
      · exact e
    unfold cntT at h4
    obtain ⟨p, hpm, hpt⟩ := List.countP_pos_iff.1 h4
    have hbd := (hp.each p hpm).2.1
    unfold bodyAt at hbd
    rw [List.find?_isSome] at hbd
    obtain ⟨x, hx, hxt⟩ := hbd
    have hxe : x.Typ = c.Typ := (eq_of_beq hxt).trans (eq_of_beq hpt)
    refine ⟨x, List.mem_filter.2 ⟨hx, ?_⟩, ?_⟩
    · rw [hxe]; show decide (0 < boards * (cntT l c.Typ : Int)) = true; rw [← h3]; simpa using h1
    · cases c
      simp only at hxe h3
      rw [hxe]
      show (⟨_, boards * (cntT l _ : Int)⟩ : Count) = _
      rw [← h3]
theorem S_mount_needed {l : List Place} {boards : Int} {Q : List (Str × Int) → Prop} (h : Q (needMap l boards l.length)) : M_mount_needed l boards Q := by
  unfold M_mount_needed
  refine forIn0 (fun k m => m = needMap l boards k) rfl (fun k x m hx hI next hn => ?_) (fun m hI => by subst hI; exact h)
  have hX := hn _ rfl
  rw [needMap_succ hx, ← hI] at hX
  exact hX
theorem S_mount_counts {m : List (Str × Int)} (hl : m.length ≤ 1000000) {Q : List Count → List (Str × Int) → Prop} (h : ∀ seen t, m.Perm seen → t.Perm (posOf seen) → t.Pairwise (fun a b => ¬ cmpCounts b a < 0) → Q t m) : M_mount_counts m Q := by
  unfold M_mount_counts
  have key : ∀ (n : Nat) (left seen : List (Str × Int)) (out : List Count), left.length = n → m.Perm (seen ++ left) → out = posOf seen → iterF (fun again (s : List Count × List (Str × Int)) => M_mount_counts_L1 m Q (fun l2 m2 => again (l2, m2)) s.1 s.2) (n + 1) (out, left) := by
    intro n
    induction n with
    | zero =>
      intro left seen out hn hp ho
      have hl0 : left = [] := List.eq_nil_of_length_eq_zero hn
      subst hl0
      rw [List.append_nil] at hp
      show nextq _ _ _
      dsimp only
      refine ⟨fun _ => ⟨?_, fun t ht hs => ?_⟩, fun y rest hy => ?_⟩
      · rw [ho]
        have : (posOf seen).length ≤ seen.length := by unfold posOf; rw [List.length_map]; exact List.length_filter_le _ _
        have := hp.length_eq
        omega
      · exact h seen t hp (by rw [← ho]; exact ht) hs
      · have := hy.length_eq; simp at this
    | succ n ih =>
      intro left seen out hn hp ho
      show nextq _ _ _
      dsimp only
      refine ⟨fun e => by rw [e] at hn; simp at hn, fun y rest hy => ?_⟩
      have hlen := hy.length_eq
      have hp2 : m.Perm ((seen ++ [y]) ++ rest) := by
        rw [List.append_assoc]; exact hp.trans (hy.append_left seen)
      have hpl := hp.length_eq
      rw [List.length_append] at hpl
      have hnr : rest.length = n := by simp at hlen; omega
      have hpo : posOf (seen ++ [y]) = posOf seen ++ (if y.2 > 0 then [⟨y.1, y.2⟩] else []) := by
        unfold posOf
        rw [List.filter_append, List.map_append]
        congr 1
        by_cases e : y.2 > 0 <;> simp [e]
      have hol : out.length ≤ seen.length := by rw [ho]; unfold posOf; rw [List.length_map]; exact List.length_filter_le _ _
      refine cnd_of (fun e => ?_) (fun e => ?_)
      · refine ⟨room_of (by simp only [List.length_append, List.length_singleton]; omega) (by omega), ?_⟩
        exact ih rest (seen ++ [y]) _ hnr hp2 (by rw [hpo, if_pos (of_decide_eq_true e), ho])
      · exact ih rest (seen ++ [y]) _ hnr hp2 (by rw [hpo, if_neg (of_decide_eq_false e), List.append_nil, ho])
  exact ⟨_, key m.length m [] [] rfl (by simp) rfl⟩
def boardsFault (b : List Body) (l : List Place) (boards : Int) : Int := if placesFault b l ≠ 0 then placesFault b l else if within boards 0 1000 = false then 1 else 0
theorem needMap_len (l : List Place) (boards : Int) : ∀ k, k ≤ l.length → (needMap l boards k).length ≤ k
  | 0, _ => by simp [needMap]
  | k + 1, h => by
    have ih := needMap_len l boards k (by omega)
    rw [needMap_succ (List.getElem?_eq_getElem (by omega))]
    have hput : ∀ (m : List (Str × Int)) (t : Str) (v : Int), (mput m t v).length ≤ m.length + 1 := by
      intro m t v
      induction m with
      | nil => simp [mput]
      | cons p r ih => unfold mput; split <;> simp <;> omega
    have := hput (needMap l boards k) (l[k]'(by omega)).Typ (w64 ((mget (needMap l boards k) (l[k]'(by omega)).Typ).getD 0 + boards))
    unfold needStep; omega
theorem S_mount_Needed {b : List Body} (hbf : Fits.fits b) {l : List Place} (hlf : Fits.fits l) {boards : Int} {Q : List Count → Int → Prop} (h : if boardsFault b l boards = 0 then Q (neededOf b l boards) 0 else Q [] (boardsFault b l boards)) : M_mount_Needed b l boards Q := by
  unfold M_mount_Needed
  refine S_mount_CheckPlaces hbf hlf (cnd_of (fun e => ?_) (fun e => ?_))
  · have e : placesFault b l ≠ 0 := by simpa using e
    rw [show boardsFault b l boards = placesFault b l by unfold boardsFault; rw [if_pos e], if_neg e] at h; exact h
  have e : placesFault b l = 0 := by simpa using e
  have hw : M_mount_isBoards boards (fun y2 => y2 = within boards 0 1000) := rfl
  unfold M_mount_isBoards
  refine cnd_of (fun e2 => ?_) (fun e2 => ?_)
  · rw [show boardsFault b l boards = 1 by unfold boardsFault; rw [if_neg (fun hh => hh e), if_pos (by simpa using e2)], if_neg (by decide)] at h; exact h
  have e2 : within boards 0 1000 = true := by simpa using e2
  rw [show boardsFault b l boards = 0 by unfold boardsFault; rw [if_neg (fun hh => hh e), if_neg (by rw [e2]; decide)], if_pos rfl] at h
  have hp := places_ok e
  have hb : 0 ≤ boards ∧ boards ≤ 1000 := by unfold within at e2; simp at e2; exact e2
  have hml := needMap_len l boards l.length (Nat.le_refl _)
  refine S_mount_needed (S_mount_counts (by have := hp.len; omega) (fun seen t h1 h2 h3 => ?_))
  rw [counts_is (needMap_keys l boards l.length (Nat.le_refl _)) (neededOf_rises hp.bodies l boards) (mem_neededOf hp hb) h1 h2 h3]
  exact h
theorem S_ref10_needed {b : List Body} {l : List Place} {boards : Int} (hbl : b.length ≤ 200) (hl : l.length ≤ 1000) (hb : 0 ≤ boards ∧ boards ≤ 1000) {Q : List Count → Prop} (h : Q (neededOf b l boards)) : M_ref10_needed b l boards Q := by
  unfold M_ref10_needed
  refine forIn0 (fun k acc => acc = neededOf (b.take k) l boards) rfl (fun k x acc hx hI next hn => ?_) (fun acc hI => by subst hI; rw [List.take_length]; exact h)
  have hX := hn _ rfl
  have hk := lt_of_get hx
  have hsu : neededOf (b.take (k + 1)) l boards = neededOf (b.take k) l boards ++ (if 0 < needOf l boards x.Typ then [⟨x.Typ, needOf l boards x.Typ⟩] else []) := by
    unfold neededOf
    rw [List.take_add_one, hx, List.filter_append, List.map_append]
    congr 1
    by_cases e : 0 < needOf l boards x.Typ <;> simp [e]
  rw [hsu, ← hI] at hX
  have hal : acc.length ≤ k := by
    rw [hI]; unfold neededOf; rw [List.length_map]
    refine Nat.le_trans (List.length_filter_le _ _) ?_
    rw [List.length_take]; omega
  unfold M_ref10_needed_L1
  refine forIn0 (fun j n => n = boards * (cntT (l.take j) x.Typ : Int)) (by simp [cntT]) (fun j y n hy hJ next2 hn2 => ?_) (fun n hJ => ?_)
  · have hY := hn2 _ rfl
    rw [cntT_succ hy] at hY
    have h1 := cntT_le l x.Typ j
    have h2 : boards * (cntT (l.take j) x.Typ : Int) ≤ 1000 * 1000 := Int.mul_le_mul hb.2 (by omega) (by omega) (by omega)
    have h3 : 0 ≤ boards * (cntT (l.take j) x.Typ : Int) := Int.mul_nonneg hb.1 (by omega)
    unfold M_ref10_needed_L2
    refine cnd_of (fun e => ?_) (fun e => ?_)
    · rw [if_pos (by simpa using e), Int.natCast_add, Int.mul_add, ← hJ] at hY
      rw [w64_id (by omega) (by omega)]
      simpa using hY
    · rw [if_neg (by simpa using e), Nat.add_zero, ← hJ] at hY; exact hY
  · rw [List.take_length] at hJ
    have hJ : n = needOf l boards x.Typ := hJ
    subst hJ
    refine cnd_of (fun e => ?_) (fun e => ?_)
    · rw [if_pos (by simpa using e)] at hX
      exact ⟨room_of (by simp only [List.length_append, List.length_singleton]; omega) (by omega), hX⟩
    · rw [if_neg (by simpa using e), List.append_nil] at hX; exact hX
theorem S_ref10_Needed {b : List Body} (hbf : Fits.fits b) {l : List Place} (hs : ∀ p ∈ l, p.Part.length < 4294967281) {boards : Int} {Q : List Count → Int → Prop} (h : if boardsFault b l boards = 0 then Q (neededOf b l boards) 0 else Q [] (boardsFault b l boards)) : M_ref10_Needed b l boards Q := by
  unfold M_ref10_Needed
  refine S_ref10_CheckPlaces hbf hs (cnd_of (fun e => ?_) (fun e => ?_))
  · have e : placesFault b l ≠ 0 := by simpa using e
    rw [show boardsFault b l boards = placesFault b l by unfold boardsFault; rw [if_pos e], if_neg e] at h; exact h
  have e : placesFault b l = 0 := by simpa using e
  refine cnd_of (fun e2 => ?_) (fun e2 => ?_)
  · rw [show boardsFault b l boards = 1 by unfold boardsFault; rw [if_neg (fun hh => hh e), if_pos (by simpa using e2)], if_neg (by decide)] at h; exact h
  have e2 : within boards 0 1000 = true := by simpa using e2
  rw [show boardsFault b l boards = 0 by unfold boardsFault; rw [if_neg (fun hh => hh e), if_neg (by rw [e2]; decide)], if_pos rfl] at h
  have hp := places_ok e
  exact S_ref10_needed hp.bodies.len hp.len (by unfold within at e2; simp at e2; exact e2) h
theorem S_equal_cnt {xs ys : List Count} {Q : Bool → Prop} (h : Q (decide (xs = ys))) : M_equal_cnt xs ys Q := by
  unfold M_equal_cnt
  exact equal_loop (fun k x next hh => hh) h
theorem parts_small {l : List Place} (h : Bulk.bk l ≤ 1048576) : ∀ p ∈ l, p.Part.length < 4294967281 := fun p hp => by
  have h1 := bulk_mem hp
  have h2 : Bulk.bk p.Part ≤ Bulk.bk p := Nat.le_add_right _ _
  have h3 : p.Part.length + 1 ≤ Bulk.bk p.Part := Nat.le_refl _
  omega
theorem law_Checks_upto (b : List Body) (l : List Place) (boards : Int) (hb : Fits.fits b) (hl : Fits.fits l) (k1 : Bulk.bk l ≤ 1048576) : M_law_Checks b l boards (· = true) := by
  unfold M_law_Checks
  have fin : ∀ (c : List Count) (f : Int), M_mount_CheckBodies b (fun y5 => M_ref10_CheckBodies b fun y6 => cnd (y5 == y6) (M_mount_CheckPlaces b l fun y7 => M_ref10_CheckPlaces b l fun y8 => cnd (y7 == y8) (cnd (f == f) (M_equal_cnt c c fun y9 => cnd y9 (M_awake fun y10 => y10 = true) (false = true)) (false = true)) (false = true)) (false = true)) := fun c f => by
    refine S_mount_CheckBodies hb (S_ref10_CheckBodies hb (cnd_of (fun _ => ?_) (fun e => by simp at e)))
    refine S_mount_CheckPlaces hb hl (S_ref10_CheckPlaces hb (parts_small k1) (cnd_of (fun _ => ?_) (fun e => by simp at e)))
    refine cnd_of (fun _ => S_equal_cnt ?_) (fun e => by simp at e)
    exact cnd_of (fun _ => S_awake rfl) (fun e => by simp at e)
  refine S_mount_Needed hb hl ?_
  by_cases hc : boardsFault b l boards = 0
  · rw [if_pos hc]
    refine S_ref10_Needed hb (parts_small k1) ?_
    rw [if_pos hc]
    exact fin _ _
  · rw [if_neg hc]
    refine S_ref10_Needed hb (parts_small k1) ?_
    rw [if_neg hc]
    exact fin _ _
end Go.Proofs.YtcmlcgjjkccaeaaDoor
