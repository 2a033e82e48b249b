/- Chapter texts of ours, as far as the claim needs them. -/
import Derived.Test.YtihjaehkdgdenaaGreatDoorRzA
import Derived.Test.YtihjaehkdgdenaaGreatDoorRtS
import Derived.Test.YtihjaehkdgdenaaGreatDoorRyM
namespace Go.Proofs.YtihjaehkdgdenaaGreatDoor
open Go Go.RowKit
set_option linter.unusedVariables false
set_option linter.unusedSectionVars false
set_option linter.unusedSimpArgs false
theorem hasN_blockedL {g : Grid} {X : List Cell} {n : Nat} (hn : n < (grG g).N) : hasN g (blockedL g X) n = (hasN g g.Blocked n || hasN g X n) := by
  rw [Bool.eq_iff_iff]
  unfold blockedL
  constructor
  · intro h
    have h1 : ((List.map (cellN g) ((List.range (grG g).N).filter (fun n => hasN g g.Blocked n || hasN g X n))).any (fun c => decide (numN g c = n))) = true := h
    obtain ⟨c, hc, h2⟩ := List.any_eq_true.1 h1
    obtain ⟨m, hm, rfl⟩ := List.mem_map.1 hc
    have h3 := of_decide_eq_true h2
    rw [numN_cellN] at h3
    subst h3
    exact (List.mem_filter.1 hm).2
  · intro h
    refine List.any_eq_true.2 ⟨cellN g n, List.mem_map.2 ⟨n, List.mem_filter.2 ⟨List.mem_range.2 hn, h⟩, rfl⟩, decide_eq_true (numN_cellN g n)⟩
theorem mk_noOf {g : Grid} {X : List Cell} {l : List Bool} (h : Mk g X l) : l = noOf (blockedG g X) := by
  apply List.ext_getElem?
  intro n
  rcases Nat.lt_or_ge n (grG g).N with hn | hn
  · rw [h.2 n hn]
    have h2 : n < (grG (blockedG g X)).N := hn
    rw [noOf_get h2]
    congr 1
    exact (hasN_blockedL hn).symm
  · rw [List.getElem?_eq_none (by rw [h.1]; exact hn), List.getElem?_eq_none (by unfold noOf; simp; exact hn)]
theorem tree_same {g : Grid} {c : Costs} {B : List Cell} {no : List Bool} {pins : List Cell} {Q : List (List Cell) → Bool → Prop} (h : M_finder_tree ⟨⟨g.W, g.H, g.Layers, B⟩, c, no⟩ pins Q) : M_finder_tree ⟨g, c, no⟩ pins Q := h
def othersL (t : List Task) (i : Nat) : List Cell := (List.range t.length).flatMap (fun j => if j = i then [] else (t.getD j ⟨[], []⟩).Pins)
theorem mem_others {t : List Task} {i : Nat} {c : Cell} : c ∈ othersL t i ↔ ∃ (j : Nat) (u : Task), t[j]? = some u ∧ j ≠ i ∧ c ∈ u.Pins := by
  unfold othersL
  rw [List.mem_flatMap]
  constructor
  · rintro ⟨j, hj, h⟩
    have hjl := List.mem_range.1 hj
    split at h
    · cases h
    · rename_i hne
      have hg := List.getElem?_eq_getElem hjl
      have e : t.getD j ⟨[], []⟩ = t[j] := by rw [List.getD_eq_getElem?_getD, hg]; rfl
      rw [e] at h
      exact ⟨j, _, hg, hne, h⟩
  · rintro ⟨j, u, hu, hne, h⟩
    refine ⟨j, List.mem_range.2 (lt_of_get hu), ?_⟩
    rw [if_neg hne]
    have e : t.getD j ⟨[], []⟩ = u := by rw [List.getD_eq_getElem?_getD, hu]; rfl
    rw [e]; exact h
def PinsArr (g : Grid) (t : List Task) (k : Nat) (E : List Cell) (l : List Int) : Prop :=
  l.length = (grG g).N ∧ ∀ n, n < (grG g).N → (∃ (j : Nat) (u : Task) (p : Cell), j ≤ k ∧ t[j]? = some u ∧ p ∈ u.Pins ∧ numN g p = n ∧ l[n]? = some ((j + 1 : Nat) : Int)) ∨
    ((∀ (j : Nat) (u : Task) (p : Cell), j < k → t[j]? = some u → p ∈ u.Pins → numN g p ≠ n) ∧ (∀ p ∈ E, numN g p ≠ n) ∧ l[n]? = some 0)
theorem S_pinsArr {g : Grid} {t : List Task} (ok : TOk g t) {D : List Int → Prop} (h : ∀ l, PinsArr g t t.length [] l → D l) :
    forIn' (fun k x (s : List Int) next => M_route_round_L1 g k x s (fun l2 => next l2)) (fun (s : List Int) => (fun (l2 : List Int) => D l2) s) t 0 (List.replicate (grG g).N (0 : Int)) := by
  have hs := ok.gok.sz
  refine forIn0 (fun k (l : List Int) => PinsArr g t k [] l) ⟨by simp, fun n hn => .inr ⟨fun j u p hj => by omega, fun p hp => (by cases hp), by rw [List.getElem?_replicate, if_pos hn]⟩⟩ (fun k x l hx hI next hn => ?_) (fun l hI => h l hI)
  have hxp := ok.pins x (List.mem_of_getElem? hx)
  unfold M_route_round_L1
  refine forIn0 (fun j (l : List Int) => PinsArr g t k (x.Pins.take j) l) hI (fun j p l hp hJ nx hnn => ?_) (fun l hJ => hn _ ?_)
  · have hin := (hxp.2.2.2 p (List.mem_of_getElem? hp)).1
    have hlt := numN_lt hs hin
    unfold M_route_round_L6
    refine S_number hs hin (idx_nat (List.getElem?_eq_getElem (by rw [hJ.1]; exact hlt)) ?_)
    rw [Int.toNat_natCast]
    refine hnn _ ⟨by rw [List.length_set]; exact hJ.1, fun n hnl => ?_⟩
    rw [set_get' (by rw [hJ.1]; exact hlt)]
    by_cases e : n = numN g p
    · subst e
      exact .inl ⟨k, x, p, Nat.le_refl _, hx, List.mem_of_getElem? hp, rfl, if_pos rfl⟩
    · rw [if_neg e]
      rcases hJ.2 n hnl with h1 | ⟨h1, h2, h3⟩
      · exact .inl h1
      · refine .inr ⟨h1, fun q hq => ?_, h3⟩
        rw [List.take_add_one, hp] at hq
        rcases List.mem_append.1 hq with h4 | h4
        · exact h2 q h4
        · have : q = p := by simpa using h4
          rw [this]; exact fun h5 => e h5.symm
  · rw [List.take_length] at hJ
    refine ⟨hJ.1, fun n hnl => ?_⟩
    rcases hJ.2 n hnl with ⟨j, u, p, h1, h2⟩ | ⟨h1, h2, h3⟩
    · exact .inl ⟨j, u, p, by omega, h2⟩
    · refine .inr ⟨fun j u p hj hu hp => ?_, fun p hp => (by cases hp), h3⟩
      by_cases e : j = k
      · subst e; rw [hx] at hu; injection hu with hu; subst hu; exact h2 p hp
      · exact h1 j u p (by omega) hu hp
theorem owner_others {g : Grid} {t : List Task} (ok : TOk g t) {l : List Int} (hl : PinsArr g t t.length [] l) {i n : Nat} (hn : n < (grG g).N) (hi : i < t.length) : ∃ v, l[n]? = some v ∧ (decide (v > 0) && (v != w64 ((i : Int) + 1))) = hasN g (othersL t i) n := by
  have hs := ok.gok.sz
  have htl := ok.len
  have hw : w64 ((i : Int) + 1) = ((i + 1 : Nat) : Int) := by rw [w64_id (by omega) (by omega)]; omega
  rcases hl.2 n hn with ⟨j, u, p, _, hu, hp, hnp, hv⟩ | ⟨h1, _, hv⟩
  · refine ⟨_, hv, ?_⟩
    have hpos : decide ((((j + 1 : Nat)) : Int) > 0) = true := decide_eq_true (by omega)
    rw [hpos, Bool.true_and, hw]
    have hpin := (ok.pins u (List.mem_of_getElem? hu)).2.2.2 p hp
    by_cases e : j = i
    · subst e
      have h2 : (((j + 1 : Nat) : Int) != ((j + 1 : Nat) : Int)) = false := by simp
      rw [h2]
      symm
      unfold hasN
      rw [List.any_eq_false]
      intro c hc h3
      obtain ⟨j2, u2, hu2, hne, hc2⟩ := mem_others.1 hc
      have h4 := of_decide_eq_true h3
      have hcin := (ok.pins u2 (List.mem_of_getElem? hu2)).2.2.2 c hc2
      have : c = p := numN_inj hs hcin.1 hpin.1 (h4.trans hnp.symm)
      subst this
      exact hne (ok.apart _ _ _ _ _ hu2 hu hc2 hp)
    · have h2 : (((j + 1 : Nat) : Int) != ((i + 1 : Nat) : Int)) = true := by simp; omega
      rw [h2]
      symm
      unfold hasN
      exact List.any_eq_true.2 ⟨p, mem_others.2 ⟨j, u, hu, e, hp⟩, decide_eq_true hnp⟩
  · refine ⟨_, hv, ?_⟩
    show false = _
    symm
    unfold hasN
    rw [List.any_eq_false]
    intro c hc h3
    obtain ⟨j2, u2, hu2, hne, hc2⟩ := mem_others.1 hc
    exact h1 j2 u2 c (lt_of_get hu2) hu2 hc2 (of_decide_eq_true h3)
inductive RPre (g : Grid) (c : Costs) (t : List Task) : List Nat → List Cell → List (List (List Cell)) → List Nat → Prop
  | nil : RPre g c t [] [] (List.replicate t.length []) []
  | good {d : List Nat} {U : List Cell} {out : List (List (List Cell))} {F : List Nat} {i : Nat} {u : Task} {W : List (List Cell)} (h : RPre g c t d U out F) (hu : t[i]? = some u)
      (hT : TreeRun (blockedG g (U ++ othersL t i)) c u.Pins [numN g (u.Pins.getD 0 default)] W true) : RPre g c t (d ++ [i]) (U ++ W.flatten) (out.set i W) F
  | bad {d : List Nat} {U : List Cell} {out : List (List (List Cell))} {F : List Nat} {i : Nat} {u : Task} {W : List (List Cell)} (h : RPre g c t d U out F) (hu : t[i]? = some u)
      (hT : TreeRun (blockedG g (U ++ othersL t i)) c u.Pins [numN g (u.Pins.getD 0 default)] W false) : RPre g c t (d ++ [i]) U out (F ++ [i])
theorem snoc_inj {α : Type} {a b : List α} {x y : α} (h : a ++ [x] = b ++ [y]) : a = b ∧ x = y := by
  have := List.append_inj' h rfl
  exact ⟨this.1, by simpa using this.2⟩
theorem RPre.det {g : Grid} {c : Costs} {t : List Task} {d : List Nat} {U : List Cell} {out : List (List (List Cell))} {F : List Nat} (h : RPre g c t d U out F) : ∀ {d' : List Nat} {U' : List Cell} {out' : List (List (List Cell))} {F' : List Nat}, RPre g c t d' U' out' F' → d = d' → U = U' ∧ out = out' ∧ F = F' := by
  induction h with
  | nil =>
    intro d' U' out' F' h' e
    cases h' with
    | nil => exact ⟨rfl, rfl, rfl⟩
    | good h _ _ => exact absurd (congrArg List.length e) (by simp)
    | bad h _ _ => exact absurd (congrArg List.length e) (by simp)
  | good h hu hT ih =>
    intro d' U' out' F' h' e
    cases h' with
    | nil => exact absurd (congrArg List.length e) (by simp)
    | good h2 hu2 hT2 =>
      obtain ⟨e1, e2⟩ := snoc_inj e
      obtain ⟨e3, e4, e5⟩ := ih h2 e1
      subst e2; subst e3; subst e4; subst e5
      rw [hu] at hu2; injection hu2 with hu2; subst hu2
      obtain ⟨e6, _⟩ := hT.det hT2 (fun a => Iff.rfl)
      subst e6; exact ⟨rfl, rfl, rfl⟩
    | bad h2 hu2 hT2 =>
      obtain ⟨e1, e2⟩ := snoc_inj e
      obtain ⟨e3, e4, e5⟩ := ih h2 e1
      subst e2; subst e3
      rw [hu] at hu2; injection hu2 with hu2; subst hu2
      obtain ⟨_, e6⟩ := hT.det hT2 (fun a => Iff.rfl)
      cases e6
  | bad h hu hT ih =>
    intro d' U' out' F' h' e
    cases h' with
    | nil => exact absurd (congrArg List.length e) (by simp)
    | good h2 hu2 hT2 =>
      obtain ⟨e1, e2⟩ := snoc_inj e
      obtain ⟨e3, e4, e5⟩ := ih h2 e1
      subst e2; subst e3
      rw [hu] at hu2; injection hu2 with hu2; subst hu2
      obtain ⟨_, e6⟩ := hT.det hT2 (fun a => Iff.rfl)
      cases e6
    | bad h2 hu2 hT2 =>
      obtain ⟨e1, e2⟩ := snoc_inj e
      obtain ⟨e3, e4, e5⟩ := ih h2 e1
      subst e2; subst e3; subst e4; subst e5
      exact ⟨rfl, rfl, rfl⟩
theorem wayF_less {g : Grid} (hg : GOk g) {X : List Cell} (hX : ∀ c ∈ X, inG g c = true) {w : List Cell} (h : wayF (blockedG g X) w = 0) : wayF g w = 0 ∧ ∀ c ∈ w, c ∉ X := by
  obtain ⟨h1, h2, h3⟩ := cells_of_way h
  have hm := (blockedL_srt hg hX).2
  constructor
  · unfold wayF
    rw [if_neg (fun e => h2 (List.eq_nil_of_length_eq_zero e)), if_neg (by omega)]
    refine firstBad_none _ 0 fun j y hy => ?_
    rw [Nat.zero_add]
    obtain ⟨a1, a2, a3, a4⟩ := wayBad_in (h3 j y hy)
    have a1' : inG g y = true := a1
    have a2' : y ∉ g.Blocked := fun hb => a2 ((hm y).2 (.inl hb))
    unfold wayBad
    rw [if_neg (by rw [a1']; decide), if_neg a2', if_neg (fun h => a3 h.1 h.2), if_neg a4]
  · intro c hc hcX
    obtain ⟨j, hj⟩ := List.getElem?_of_mem hc
    exact (wayBad_in (h3 j c hj)).2.1 ((hm c).2 (.inr hcX))
theorem TreeRun.few {g : Grid} {c : Costs} {pins : List Cell} {T : List Nat} {W : List (List Cell)} {ok : Bool} (h : TreeRun g c pins T W ok) : W.length ≤ pins.countP (fun p => decide (numN g p ∉ T)) := by
  induction h with
  | done _ => exact Nat.zero_le _
  | fail _ _ => exact Nat.zero_le _
  | @step T T' i p d keys start l W ok hp hw hr ih =>
    have hle : pins.countP (fun q => decide (numN g q ∉ T')) + 1 ≤ pins.countP (fun q => decide (numN g q ∉ T)) := by
      have hpT' : numN g p ∈ T' := (hw.iff _).2 (.inr (goes_end hw.goal hw.goes hw.key))
      have hmono : ∀ q, numN g q ∉ T' → numN g q ∉ T := fun q h1 h2 => h1 ((hw.iff _).2 (.inl h2))
      have key : ∀ (L : List Cell), p ∈ L → L.countP (fun q => decide (numN g q ∉ T')) + 1 ≤ L.countP (fun q => decide (numN g q ∉ T)) := by
        intro L
        induction L with
        | nil => intro h; cases h
        | cons x r ihl =>
          intro hx
          have hall : r.countP (fun q => decide (numN g q ∉ T')) ≤ r.countP (fun q => decide (numN g q ∉ T)) := List.countP_mono_left fun q _ hq => by
            have := of_decide_eq_true hq; exact decide_eq_true (hmono q this)
          rw [List.countP_cons, List.countP_cons]
          by_cases e : x = p
          · subst e
            have e1 : decide (numN g x ∉ T') = false := decide_eq_false (fun h => h hpT')
            have e2 : decide (numN g x ∉ T) = true := decide_eq_true hp.out
            rw [e1, e2, if_neg (by decide), if_pos rfl]; omega
          · have := ihl ((List.mem_cons.1 hx).resolve_left (Ne.symm e))
            by_cases e1 : numN g x ∉ T'
            · rw [decide_eq_true e1, decide_eq_true (hmono x e1), if_pos rfl]; omega
            · rw [decide_eq_false e1, if_neg (by decide)]; omega
      exact key pins (List.mem_of_getElem? hp.at_)
    rw [List.length_cons]; omega
theorem TreeRun.tog {g : Grid} (hs : Sz g) {c : Costs} {pins : List Cell} (hpf : ∀ x ∈ pins, inG g x = true) {p0 : Cell} (hp0 : pins[0]? = some p0) {W : List (List Cell)}
    (hord : ∀ (j : Nat) w, W[j]? = some w → ∃ x ∈ w, (∃ n ∈ [numN g p0], x = cellN g n) ∨ ∃ (i : Nat) (v : List Cell), i < j ∧ W[i]? = some v ∧ x ∈ v) (hcov : ∀ p ∈ pins, numN g p ∈ [numN g p0] ∨ ∃ v ∈ W, p ∈ v) : Tog pins W := by
  intro q0 hq0 c hc
  rw [hp0] at hq0; injection hq0 with hq0; subst hq0
  have h0 := hpf p0 (List.mem_of_getElem? hp0)
  have ways : ∀ (j : Nat) w, W[j]? = some w → ∀ x ∈ w, Cn W p0 x := by
    intro j
    induction j using Nat.strongRecOn with
    | _ j ih =>
      intro w hw x hx
      have hwm := List.mem_of_getElem? hw
      obtain ⟨y, hy, h1⟩ := hord j w hw
      have hy0 : Cn W p0 y := by
        rcases h1 with ⟨n, hn, rfl⟩ | ⟨i, v, hij, hv, hyv⟩
        · have : n = numN g p0 := by simpa using hn
          rw [this, cellN_numN hs h0]; exact .refl _
        · exact ih i hij v hv y hyv
      exact .step hy0 w hwm hy hx
  rcases hc with hc | ⟨w, hw, hc⟩
  · rcases hcov c hc with h1 | ⟨v, hv, h1⟩
    · have : numN g c = numN g p0 := by simpa using h1
      rw [numN_inj hs (hpf c hc) h0 this]; exact .refl _
    · obtain ⟨j, hj⟩ := List.getElem?_of_mem hv
      exact ways j v hj c h1
  · obtain ⟨j, hj⟩ := List.getElem?_of_mem hw
    exact ways j w hj c hc
structure RFact (g : Grid) (t : List Task) (d : List Nat) (U : List Cell) (out : List (List (List Cell))) (F : List Nat) : Prop where
  len : out.length = t.length
  fsub : ∀ i ∈ F, i ∈ d
  fnd : F.Nodup
  uin : ∀ c ∈ U, inG g c = true
  upin : ∀ c ∈ U, ∀ (i : Nat) u, i ∉ d → t[i]? = some u → c ∉ u.Pins
  good : ∀ (i : Nat) u, i ∈ d → i ∉ F → t[i]? = some u → ∃ W, out[i]? = some W ∧ (∀ w ∈ W, wayF g w = 0) ∧ W.length ≤ 50 ∧ Tog u.Pins W ∧ ∀ c ∈ W.flatten, c ∈ U ∧ ∀ (j : Nat) v, j ≠ i → t[j]? = some v → c ∉ v.Pins
  apart : ∀ (i j : Nat) W V, i ∈ d → j ∈ d → i ∉ F → j ∉ F → i ≠ j → out[i]? = some W → out[j]? = some V → ∀ c ∈ W.flatten, c ∉ V.flatten
theorem others_in {g : Grid} {t : List Task} (ok : TOk g t) {i : Nat} : ∀ c ∈ othersL t i, inG g c = true := fun c hc => by
  obtain ⟨j, u, hu, _, hcu⟩ := mem_others.1 hc
  exact ((ok.pins u (List.mem_of_getElem? hu)).2.2.2 c hcu).1
theorem round_in {g : Grid} {t : List Task} (ok : TOk g t) {U : List Cell} (hU : ∀ c ∈ U, inG g c = true) {i : Nat} : ∀ c ∈ U ++ othersL t i, inG g c = true := fun c hc => (List.mem_append.1 hc).elim (hU c) (others_in ok c)
theorem pins_free {g : Grid} {t : List Task} (ok : TOk g t) {d : List Nat} {U : List Cell} (hU : ∀ c ∈ U, inG g c = true) (hup : ∀ c ∈ U, ∀ (i : Nat) u, i ∉ d → t[i]? = some u → c ∉ u.Pins) {i : Nat} (hi : i ∉ d) {u : Task} (hu : t[i]? = some u) :
    ∀ x ∈ u.Pins, inG (blockedG g (U ++ othersL t i)) x = true ∧ x ∉ (blockedG g (U ++ othersL t i)).Blocked := fun x hx => by
  obtain ⟨h1, h2⟩ := (ok.pins u (List.mem_of_getElem? hu)).2.2.2 x hx
  refine ⟨h1, fun hb => ?_⟩
  rcases ((blockedL_srt ok.gok (round_in ok hU)).2 x).1 hb with h3 | h3
  · exact h2 h3
  · rcases List.mem_append.1 h3 with h4 | h4
    · exact hup x h4 i u hi hu hx
    · obtain ⟨j, v, hv, hne, hxv⟩ := mem_others.1 h4
      exact hne (ok.apart _ _ _ _ _ hv hu hxv hx)
theorem RPre.fact {g : Grid} (h0 : gridF g = 0) {c : Costs} (hc : COk c) {t : List Task} (ok : TOk g t) {d : List Nat} {U : List Cell} {out : List (List (List Cell))} {F : List Nat} (h : RPre g c t d U out F) : d.Nodup → RFact g t d U out F := by
  induction h with
  | nil => intro _; exact ⟨by simp, fun i hi => (by cases hi), List.nodup_nil, fun c hc => (by cases hc), fun c hc => (by cases hc), fun i u hi => (by cases hi), fun i j W V hi => (by cases hi)⟩
  | @good d U out F i u W h hu hT ih =>
    intro hnd
    rw [List.nodup_append] at hnd
    have f := ih hnd.1
    have hid : i ∉ d := fun hi => hnd.2.2 i hi i (by simp) rfl
    have hX := round_in (i := i) ok f.uin
    have hpf := pins_free ok f.uin f.upin hid hu
    have hgX := gridF_zero (blocked_grid h0 hX)
    have hil := lt_of_get hu
    obtain ⟨p1, p2, p3, p4⟩ := ok.pins u (List.mem_of_getElem? hu)
    have hr := hT.right hgX hc
    have hp0 : u.Pins[0]? = some (u.Pins.getD 0 default) := by rw [List.getD_eq_getElem?_getD, List.getElem?_eq_getElem p1]; rfl
    have cellsX : ∀ c ∈ W.flatten, c ∉ U ++ othersL t i ∧ inG g c = true := fun c hc => by
      obtain ⟨w, hw, hcw⟩ := List.mem_flatten.1 hc
      have h1 := wayF_less ok.gok hX (hr w hw)
      obtain ⟨j, hj⟩ := List.getElem?_of_mem hcw
      exact ⟨h1.2 c hcw, (wayBad_in ((cells_of_way h1.1).2.2 j c hj)).1⟩
    have hFi : i ∉ F := fun hi => hid (f.fsub i hi)
    have hset : ∀ j, (out.set i W)[j]? = if j = i then some W else out[j]? := fun j => set_get' (by rw [f.len]; exact hil)
    have hmine : ∃ W', (out.set i W)[i]? = some W' ∧ (∀ w ∈ W', wayF g w = 0) ∧ W'.length ≤ 50 ∧ Tog u.Pins W' ∧ ∀ c ∈ W'.flatten, c ∈ U ++ W.flatten ∧ ∀ (j : Nat) v, j ≠ i → t[j]? = some v → c ∉ v.Pins := by
      refine ⟨W, by rw [hset, if_pos rfl], fun w hw => (wayF_less ok.gok hX (hr w hw)).1, ?_, ?_, fun c hc => ⟨List.mem_append_right _ hc, fun j v hj hv hcv => (cellsX c hc).1 (List.mem_append_right _ (mem_others.2 ⟨j, v, hv, hj, hcv⟩))⟩⟩
      · have := hT.few
        have h2 := List.countP_le_length (p := fun p => decide (numN (blockedG g (U ++ othersL t i)) p ∉ [numN g (u.Pins.getD 0 default)])) (l := u.Pins)
        omega
      · exact TreeRun.tog (c := c) ok.gok.sz (fun x hx => (p4 x hx).1) hp0 (fun j w hj => hT.ord j w hj) (fun p hp => hT.cov hgX hpf rfl p hp)
    refine ⟨by rw [List.length_set]; exact f.len, fun j hj => List.mem_append_left _ (f.fsub j hj), f.fnd, fun c hc => (List.mem_append.1 hc).elim (f.uin c) (fun h => (cellsX c h).2), fun c hc j v hj hv => ?_, fun j v hj hjF hv => ?_, fun j k A B hj hk hjF hkF hne hA hB c hcA hcB => ?_⟩
    · have hjd : j ∉ d := fun h => hj (List.mem_append_left _ h)
      have hji : j ≠ i := fun h => hj (by rw [h]; simp)
      rcases List.mem_append.1 hc with h1 | h1
      · exact f.upin c h1 j v hjd hv
      · exact fun hcv => (cellsX c h1).1 (List.mem_append_right _ (mem_others.2 ⟨j, v, hv, hji, hcv⟩))
    · by_cases e : j = i
      · subst e; rw [hu] at hv; injection hv with hv; subst hv; exact hmine
      · have hjd : j ∈ d := by
          rcases List.mem_append.1 hj with h1 | h1
          · exact h1
          · exact absurd (by simpa using h1) e
        obtain ⟨A, a1, a2, a3, a4, a5⟩ := f.good j v hjd hjF hv
        exact ⟨A, by rw [hset, if_neg e]; exact a1, a2, a3, a4, fun c hc => ⟨List.mem_append_left _ (a5 c hc).1, (a5 c hc).2⟩⟩
    · rw [hset] at hA hB
      have inU : ∀ (j : Nat) A, j ∈ d ++ [i] → j ∉ F → j ≠ i → out[j]? = some A → ∀ c ∈ A.flatten, c ∈ U := fun j A hj hjF e hA c hcA => by
        have hjd : j ∈ d := by
          rcases List.mem_append.1 hj with h1 | h1
          · exact h1
          · exact absurd (by simpa using h1) e
        have hjl : j < t.length := by have := lt_of_get hA; rw [f.len] at this; exact this
        obtain ⟨A', a1, _, _, _, a5⟩ := f.good j _ hjd hjF (List.getElem?_eq_getElem hjl)
        rw [hA] at a1; injection a1 with a1; subst a1
        exact (a5 c hcA).1
      by_cases e1 : j = i
      · rw [if_pos e1] at hA; injection hA with hA; subst hA
        have e2 : k ≠ i := fun h => hne (e1.trans h.symm)
        rw [if_neg e2] at hB
        exact (cellsX c hcA).1 (List.mem_append_left _ (inU k B hk hkF e2 hB c hcB))
      · rw [if_neg e1] at hA
        by_cases e2 : k = i
        · rw [if_pos e2] at hB; injection hB with hB; subst hB
          exact (cellsX c hcB).1 (List.mem_append_left _ (inU j A hj hjF e1 hA c hcA))
        · rw [if_neg e2] at hB
          have mem : ∀ m, m ∈ d ++ [i] → m ≠ i → m ∈ d := fun m hm hmi => by
            rcases List.mem_append.1 hm with h1 | h1
            · exact h1
            · exact absurd (by simpa using h1) hmi
          exact f.apart j k A B (mem j hj e1) (mem k hk e2) hjF hkF hne hA hB c hcA hcB
  | @bad d U out F i u W h hu hT ih =>
    intro hnd
    rw [List.nodup_append] at hnd
    have f := ih hnd.1
    have hid : i ∉ d := fun hi => hnd.2.2 i hi i (by simp) rfl
    have mem : ∀ m, m ∈ d ++ [i] → m ∉ F ++ [i] → m ∈ d ∧ m ∉ F := fun m hm hmF => by
      rcases List.mem_append.1 hm with h1 | h1
      · exact ⟨h1, fun h2 => hmF (List.mem_append_left _ h2)⟩
      · exact absurd (List.mem_append_right _ h1) hmF
    refine ⟨f.len, fun j hj => ?_, ?_, f.uin, fun c hc j v hj hv => f.upin c hc j v (fun h => hj (List.mem_append_left _ h)) hv, fun j v hj hjF hv => ?_, fun j k A B hj hk hjF hkF => ?_⟩
    · rcases List.mem_append.1 hj with h1 | h1
      · exact List.mem_append_left _ (f.fsub j h1)
      · exact List.mem_append_right _ h1
    · rw [List.nodup_append]
      refine ⟨f.fnd, by simp, fun a ha b hb => ?_⟩
      have : b = i := by simpa using hb
      rw [this]; exact fun h => hid (h ▸ f.fsub a ha)
    · obtain ⟨h1, h2⟩ := mem j hj hjF
      exact f.good j v h1 h2 hv
    · obtain ⟨h1, h2⟩ := mem j hj hjF
      obtain ⟨h3, h4⟩ := mem k hk hkF
      exact f.apart j k A B h1 h3 h2 h4
end Go.Proofs.YtihjaehkdgdenaaGreatDoor
