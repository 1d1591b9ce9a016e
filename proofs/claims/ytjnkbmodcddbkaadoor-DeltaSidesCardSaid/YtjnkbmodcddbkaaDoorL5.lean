/- Plain laws of what changes, and of what comes of two sides. -/
import Derived.Test.YtjnkbmodcddbkaaDoorS19
set_option linter.unusedVariables false
set_option linter.unusedSimpArgs false
namespace Go.Proofs.YtjnkbmodcddbkaaDoor
open Go Go.RowKit
theorem getL_mem {l : List Ent} {q : ByteArray} (h : getL l q ≠ []) : ∃ e, e ∈ l ∧ e.path = q := by
  induction l with
  | nil => exact absurd rfl h
  | cons e r ih =>
    rw [getL] at h
    by_cases he : e.path = q
    · exact ⟨e, by simp, he⟩
    · rw [if_neg he] at h
      obtain ⟨x, hx, hp⟩ := ih h
      exact ⟨x, by simp [hx], hp⟩
theorem allP_sorted (A B C : List Ent) : (allP A B C).Pairwise ltP := by
  have h1 := pathsF_spec A (out := []) List.Pairwise.nil
  have h2 := pathsF_spec B h1.1
  exact (pathsF_spec C h2.1).1
theorem mem_allP {A B C : List Ent} {q : ByteArray} : q ∈ allP A B C ↔ (∃ e, e ∈ A ∧ e.path = q) ∨ (∃ e, e ∈ B ∧ e.path = q) ∨ (∃ e, e ∈ C ∧ e.path = q) := by
  have h1 := pathsF_spec A (out := []) List.Pairwise.nil
  have h2 := pathsF_spec B h1.1
  have h3 := pathsF_spec C h2.1
  unfold allP
  rw [h3.2, h2.2, h1.2]
  simp [or_assoc]
theorem allP_swap (A B C : List Ent) : allP A C B = allP A B C := sorted_eq (allP_sorted _ _ _) (allP_sorted _ _ _) (fun q => by rw [mem_allP, mem_allP]; constructor <;> (rintro (h | h | h) <;> simp [h]))
theorem getL_some {A B C : List Ent} {q : ByteArray} (h : getL A q ≠ getL B q) : q ∈ allP A B C := by
  rw [mem_allP]
  by_cases h1 : getL A q = []
  · have h2 : getL B q ≠ [] := fun h2 => h (by rw [h1, h2])
    exact .inr (.inl (getL_mem h2))
  · exact .inl (getL_mem h1)
/-- What changes, told by the paths. -/
def chgR (A B : List Ent) : List Chg := (allP A B []).flatMap (fun q => if getL A q = getL B q then [] else [⟨q, getL A q, getL B q⟩])
theorem chgP_eq {a b : Trie} (ha : rightB a = true) (hb : rightB b = true) : chgP a b = chgR (entriesR a) (entriesR b) := by
  unfold chgP
  rw [if_pos (by rw [ha, hb]; rfl), sides_all (goodL_right ha) (goodL_right hb) ⟨List.Pairwise.nil, fun e he => by cases he⟩ (by simp)]
  unfold chgs chgR
  rw [List.flatMap_map]
  rfl
theorem mem_chgR {A B : List Ent} {x : Chg} : x ∈ chgR A B ↔ x.had = getL A x.path ∧ x.now = getL B x.path ∧ getL A x.path ≠ getL B x.path := by
  unfold chgR
  rw [List.mem_flatMap]
  constructor
  · rintro ⟨q, hq, hx⟩
    split at hx
    · cases hx
    · rename_i h
      obtain rfl : x = ⟨q, getL A q, getL B q⟩ := by simpa using hx
      exact ⟨rfl, rfl, h⟩
  · rintro ⟨h1, h2, h3⟩
    refine ⟨x.path, getL_some h3, ?_⟩
    rw [if_neg h3]
    obtain ⟨p, a, b⟩ := x
    simp only at h1 h2
    simp [h1, h2]
theorem chgR_sorted (A B : List Ent) : ((chgR A B).map Chg.path).Pairwise ltP := by
  unfold chgR
  have h := allP_sorted A B []
  generalize allP A B [] = L at h
  induction L with
  | nil => exact List.Pairwise.nil
  | cons q r ih =>
    have hq := List.pairwise_cons.1 h
    rw [List.flatMap_cons, List.map_append, List.pairwise_append]
    refine ⟨by split <;> simp, ih hq.2, fun p hp p' hp' => ?_⟩
    have e1 : p = q := by
      split at hp
      · cases hp
      · simpa using hp
    subst e1
    obtain ⟨x, hx, rfl⟩ := List.mem_map.1 hp'
    obtain ⟨q', hq', hx⟩ := List.mem_flatMap.1 hx
    split at hx
    · cases hx
    · obtain rfl : x = _ := by simpa using hx
      exact hq.1 q' hq'
/-- Do a change and one of the others tell otherwise of one path? -/
def clash (Y : List Chg) (x : Chg) : Bool := Y.any (fun y => decide (x.path = y.path) && !decide (x.now = y.now))
theorem ltP_map_filter {l : List Chg} {p : Chg → Bool} (h : (l.map Chg.path).Pairwise ltP) : ((l.filter p).map Chg.path).Pairwise ltP := by
  rw [List.pairwise_map] at h ⊢
  exact h.filter p
theorem bads_clash (A B C : List Ent) : badsR A B C = ((chgR A B).filter (clash (chgR A C))).map Chg.path := by
  refine sorted_eq ((allP_sorted A B C).filter _) (ltP_map_filter (chgR_sorted A B)) (fun q => ?_)
  unfold badsR
  rw [List.mem_filter, List.mem_map]
  unfold badF
  simp only [decide_eq_true_eq]
  constructor
  · rintro ⟨hq, h1, h2, h3⟩
    refine ⟨⟨q, getL A q, getL B q⟩, List.mem_filter.2 ⟨mem_chgR.2 ⟨rfl, rfl, h2⟩, ?_⟩, rfl⟩
    unfold clash
    rw [List.any_eq_true]
    exact ⟨⟨q, getL A q, getL C q⟩, mem_chgR.2 ⟨rfl, rfl, h3⟩, by simp [h1]⟩
  · rintro ⟨x, hx, rfl⟩
    obtain ⟨hx1, hx2⟩ := List.mem_filter.1 hx
    obtain ⟨a1, a2, a3⟩ := mem_chgR.1 hx1
    unfold clash at hx2
    obtain ⟨y, hy, hxy⟩ := List.any_eq_true.1 hx2
    obtain ⟨b1, b2, b3⟩ := mem_chgR.1 hy
    simp only [Bool.and_eq_true, decide_eq_true_eq, Bool.not_eq_true', decide_eq_false_iff_not] at hxy
    obtain ⟨e1, e2⟩ := hxy
    rw [a2, b2, ← e1] at e2
    rw [← e1] at b3
    exact ⟨getL_some a3, e2, a3, b3⟩
theorem bad_swap (a b c : List Row) : badF a c b = badF a b c := by
  unfold badF
  rw [Bool.eq_iff_iff]
  simp only [decide_eq_true_eq]
  constructor <;> rintro ⟨h1, h2, h3⟩ <;> exact ⟨fun h => h1 h.symm, h3, h2⟩
theorem pick_swap {a b c : List Row} (h : badF a b c = false) : pickF a c b = pickF a b c := by
  unfold badF at h
  simp only [decide_eq_false_iff_not] at h
  unfold pickF
  by_cases h1 : b = c
  · rw [if_pos h1, if_pos h1.symm, h1]
  · rw [if_neg h1, if_neg (fun h => h1 h.symm)]
    by_cases h2 : a = b
    · by_cases h3 : a = c
      · exact absurd (h2.symm.trans h3) h1
      · rw [if_pos h2, if_neg h3]
    · by_cases h3 : a = c
      · rw [if_neg h2, if_pos h3]
      · exact absurd ⟨h1, h2, h3⟩ h
theorem mergeR_swap (a b c : Trie) : mergeR a c b = mergeR a b c := by
  unfold mergeR
  have e1 : (!(rightB a && (rightB c && rightB b))) = (!(rightB a && (rightB b && rightB c))) := by cases rightB a <;> cases rightB b <;> cases rightB c <;> rfl
  have e2 : badsR (entriesR a) (entriesR c) (entriesR b) = badsR (entriesR a) (entriesR b) (entriesR c) := by
    unfold badsR
    rw [allP_swap]
    congr 1
    funext q
    exact bad_swap _ _ _
  rw [e1, e2]
  split
  · rfl
  · split
    · rename_i h
      have e3 : entsM (entriesR a) (entriesR c) (entriesR b) = entsM (entriesR a) (entriesR b) (entriesR c) := by
        unfold entsM
        rw [allP_swap]
        unfold badsR at h
        rw [List.filter_eq_nil_iff] at h
        have key : ∀ L : List ByteArray, (∀ q, q ∈ L → ¬ badF (getL (entriesR a) q) (getL (entriesR b) q) (getL (entriesR c) q) = true) →
            L.flatMap (fun q => if pickF (getL (entriesR a) q) (getL (entriesR c) q) (getL (entriesR b) q) = [] then [] else [(⟨q, pickF (getL (entriesR a) q) (getL (entriesR c) q) (getL (entriesR b) q)⟩ : Ent)]) =
            L.flatMap (fun q => if pickF (getL (entriesR a) q) (getL (entriesR b) q) (getL (entriesR c) q) = [] then [] else [(⟨q, pickF (getL (entriesR a) q) (getL (entriesR b) q) (getL (entriesR c) q)⟩ : Ent)]) := by
          intro L
          induction L with
          | nil => intro _; rfl
          | cons q r ih =>
            intro hL
            rw [List.flatMap_cons, List.flatMap_cons, ih (fun q hq => hL q (by simp [hq])), pick_swap (by simpa using hL q (by simp))]
        exact key _ h
      rw [e3]
    · rfl
/-- The merge's tree has, under each path, what was picked. -/
theorem getL_unique {l : List Ent} (h : l.Pairwise ltE) {e : Ent} (he : e ∈ l) : getL l e.path = e.rows := by
  induction l with
  | nil => cases he
  | cons x r ih =>
    obtain ⟨h1, h2⟩ := List.pairwise_cons.1 h
    rw [getL]
    rcases List.mem_cons.1 he with rfl | he
    · rw [if_pos rfl]
    · have := h1 e he
      rw [if_neg (fun hp => ls_ne this hp.symm), ih h2 he]
theorem getL_flat {L : List ByteArray} {g : ByteArray → List Row} {q : ByteArray} (hs : L.Pairwise ltP) (hn : q ∉ L → g q = []) :
    getL (L.flatMap (fun q => if g q = [] then [] else [(⟨q, g q⟩ : Ent)])) q = g q := by
  induction L with
  | nil => exact (hn (by simp)).symm
  | cons p r ih =>
    obtain ⟨h1, h2⟩ := List.pairwise_cons.1 hs
    rw [List.flatMap_cons]
    by_cases hp : p = q
    · subst hp
      have hnone : ∀ e, e ∈ r.flatMap (fun q => if g q = [] then [] else [(⟨q, g q⟩ : Ent)]) → e.path ≠ p := fun e he h => by
        obtain ⟨q', hq', he⟩ := List.mem_flatMap.1 he
        split at he
        · cases he
        · obtain rfl : e = _ := by simpa using he
          exact ls_ne (h1 q' hq') h
      rw [getL_app_r hnone]
      by_cases hg : g p = []
      · rw [if_pos hg, hg]; rfl
      · rw [if_neg hg, getL, if_pos rfl]
    · rw [getL_app_l (fun e he h => by
        split at he
        · cases he
        · obtain rfl : e = _ := by simpa using he
          exact hp h)]
      exact ih h2 (fun hq => hn (by simp [hq, Ne.symm hp]))
theorem getM {A B C : List Ent} (q : ByteArray) : getL (entsM A B C) q = pickF (getL A q) (getL B q) (getL C q) := by
  unfold entsM
  refine getL_flat (g := fun q => pickF (getL A q) (getL B q) (getL C q)) (allP_sorted A B C) (fun hq => ?_)
  rw [mem_allP] at hq
  simp only [not_or] at hq
  have e1 : getL A q = [] := Classical.byContradiction fun h => hq.1 (getL_mem h)
  have e2 : getL B q = [] := Classical.byContradiction fun h => hq.2.1 (getL_mem h)
  have e3 : getL C q = [] := Classical.byContradiction fun h => hq.2.2 (getL_mem h)
  rw [e1, e2, e3]
  rfl
theorem ents_told {l : List Ent} (h : l.Pairwise ltE) : l = (l.map Ent.path).map (fun q => ⟨q, getL l q⟩) := by
  rw [List.map_map]
  conv => lhs; rw [← List.map_id l]
  refine List.map_congr_left (fun e he => ?_)
  show e = ⟨e.path, getL l e.path⟩
  rw [getL_unique h he]
/-- Sorted entries with rows, told by what each path has. -/
theorem ents_ext {l m : List Ent} (hl : goodL l) (hm : goodL m) (h : ∀ q, getL l q = getL m q) : l = m := by
  have hp : ∀ {l : List Ent}, goodL l → ∀ q, q ∈ l.map Ent.path ↔ getL l q ≠ [] := fun {l} hl q => by
    rw [List.mem_map]
    constructor
    · rintro ⟨e, he, rfl⟩
      rw [getL_unique hl.1 he]
      exact (hl.2 e he).2.2
    · intro h
      exact getL_mem h
  have e1 : l.map Ent.path = m.map Ent.path := sorted_eq (by rw [List.pairwise_map]; exact hl.1) (by rw [List.pairwise_map]; exact hm.1) (fun q => by rw [hp hl, hp hm, h])
  rw [ents_told hl.1, ents_told hm.1, e1]
  refine List.map_congr_left (fun q _ => ?_)
  rw [h]
theorem good_ents {t : Trie} (h : rightB t = true) : goodL (t.ents ⟨#[]⟩) := ⟨right_sorted h, right_good h⟩
theorem entriesR_right {t : Trie} (h : rightB t = true) : entriesR t = t.ents ⟨#[]⟩ := by unfold entriesR; rw [if_pos h]
/-- What comes where there is no clash. -/
theorem merge_ok {a b c d : Trie} (ha : rightB a = true) (hb : rightB b = true) (hc : rightB c = true) (hn : ∀ q, badF (getL (entriesR a) q) (getL (entriesR b) q) (getL (entriesR c) q) = false) (hd : rightB d = true)
    (hg : ∀ q, pickF (getL (entriesR a) q) (getL (entriesR b) q) (getL (entriesR c) q) = getL (entriesR d) q) : mergeR a b c = ⟨d, [], 0⟩ := by
  have hbad : badsR (entriesR a) (entriesR b) (entriesR c) = [] := by
    unfold badsR
    rw [List.filter_eq_nil_iff]
    intro q _
    rw [hn q]
    simp
  obtain ⟨t, h1, _, h3⟩ := merge_tree ha hb hc
  have h4 := h3 hbad
  have e : t.ents ⟨#[]⟩ = d.ents ⟨#[]⟩ := ents_ext (good_ents h1) (good_ents hd) (fun q => by rw [h4, getM, hg, entriesR_right hd])
  unfold mergeR
  rw [if_neg (by rw [ha, hb, hc]; simp), if_pos hbad, ← h4, e, ofR_ents hd]
theorem merge_base {a c : Trie} (ha : rightB a = true) (hc : rightB c = true) : mergeR a a c = ⟨c, [], 0⟩ :=
  merge_ok ha ha hc (fun q => by unfold badF; simp) hc (fun q => by
    unfold pickF
    by_cases h : getL (entriesR a) q = getL (entriesR c) q
    · rw [if_pos h, h]
    · rw [if_neg h, if_pos rfl])
theorem merge_same {a b : Trie} (ha : rightB a = true) (hb : rightB b = true) : mergeR a b b = ⟨b, [], 0⟩ :=
  merge_ok ha hb hb (fun q => by unfold badF; simp) hb (fun q => by unfold pickF; rw [if_pos rfl])
theorem merge_bad {a b c : Trie} (ha : rightB a = true) (hb : rightB b = true) (hc : rightB c = true) : (mergeR a b c).bad = ((chgP a b).filter (clash (chgP a c))).map Chg.path := by
  rw [chgP_eq ha hb, chgP_eq ha hc, ← bads_clash]
  unfold mergeR
  rw [if_neg (by rw [ha, hb, hc]; simp)]
  split
  · rename_i h; exact h.symm
  · rfl
theorem merge_e {a b c : Trie} (ha : rightB a = true) (hb : rightB b = true) (hc : rightB c = true) : (mergeR a b c).e = if (mergeR a b c).bad = [] then 0 else 19 := by
  unfold mergeR
  rw [if_neg (by rw [ha, hb, hc]; simp)]
  split
  · rfl
  · rfl
theorem merge_get {a b c : Trie} (ha : rightB a = true) (hb : rightB b = true) (hc : rightB c = true) (h0 : (mergeR a b c).e = 0) (q : ByteArray) :
    badF (getL (entriesR a) q) (getL (entriesR b) q) (getL (entriesR c) q) = false ∧ getP (mergeR a b c).t q = pickF (getL (entriesR a) q) (getL (entriesR b) q) (getL (entriesR c) q) := by
  have hbad : badsR (entriesR a) (entriesR b) (entriesR c) = [] := by
    refine Classical.byContradiction fun h => ?_
    unfold mergeR at h0
    rw [if_neg (by rw [ha, hb, hc]; simp), if_neg h] at h0
    cases h0
  obtain ⟨t, h1, _, h3⟩ := merge_tree ha hb hc
  have h4 := h3 hbad
  have e : (mergeR a b c).t = t := by
    unfold mergeR
    rw [if_neg (by rw [ha, hb, hc]; simp), if_pos hbad, ← h4, ofR_ents h1]
  constructor
  · by_cases hq : q ∈ allP (entriesR a) (entriesR b) (entriesR c)
    · unfold badsR at hbad
      have := List.filter_eq_nil_iff.1 hbad q hq
      simpa using this
    · rw [mem_allP] at hq
      simp only [not_or] at hq
      have e1 : getL (entriesR a) q = [] := Classical.byContradiction fun h => hq.1 (getL_mem h)
      have e2 : getL (entriesR b) q = [] := Classical.byContradiction fun h => hq.2.1 (getL_mem h)
      rw [e1, e2]
      unfold badF
      simp
  · rw [e, getP_eq, entriesR_right h1, h4, getM]
theorem merge_x {a b c : Trie} (ha : rightB a = true) (hb : rightB b = true) (hc : rightB c = true) (h0 : (mergeR a b c).e = 0) {x : Chg} (hx : x ∈ chgP a b) : getP (mergeR a b c).t x.path = x.now := by
  rw [chgP_eq ha hb] at hx
  obtain ⟨_, h2, h3⟩ := mem_chgR.1 hx
  obtain ⟨g1, g2⟩ := merge_get ha hb hc h0 x.path
  rw [g2, h2]
  unfold pickF
  by_cases h : getL (entriesR b) x.path = getL (entriesR c) x.path
  · rw [if_pos h]
  · rw [if_neg h, if_neg h3]
theorem merge_y {a b c : Trie} (ha : rightB a = true) (hb : rightB b = true) (hc : rightB c = true) (h0 : (mergeR a b c).e = 0) {y : Chg} (hy : y ∈ chgP a c) : getP (mergeR a b c).t y.path = y.now := by
  rw [← mergeR_swap] at h0 ⊢
  exact merge_x ha hc hb h0 hy
theorem chg_sorted {a b : Trie} (ha : rightB a = true) (hb : rightB b = true) : ((chgP a b).map Chg.path).Pairwise ltP := by
  rw [chgP_eq ha hb]
  exact chgR_sorted _ _
/-- Where a chosen change stands among the chosen. -/
theorem filter_at {α : Type} {p : α → Bool} {l : List α} {i : Nat} {x : α} (h : l[i]? = some x) (hp : p x = true) : (l.filter p)[((l.take i).filter p).length]? = some x := by
  have e : l.filter p = (l.take i).filter p ++ x :: (l.drop (i + 1)).filter p := by
    conv => lhs; rw [split_at h]
    rw [List.filter_append, List.filter_cons_of_pos hp]
  rw [e, List.getElem?_append_right (Nat.le_refl _), Nat.sub_self]
  rfl
theorem filter_step {α : Type} {p : α → Bool} {l : List α} {i : Nat} {x : α} (h : l[i]? = some x) : ((l.take (i + 1)).filter p).length = ((l.take i).filter p).length + (if p x = true then 1 else 0) := by
  rw [take_snoc h, List.filter_append, List.length_append]
  by_cases hp : p x = true
  · rw [List.filter_cons_of_pos hp, if_pos hp]; rfl
  · rw [List.filter_cons_of_neg hp, if_neg hp]; rfl
theorem clash_step {l : List Chg} {k : Nat} {x y : Chg} (h : l[k]? = some y) : clash (l.take (k + 1)) x = (clash (l.take k) x || (decide (x.path = y.path) && !decide (x.now = y.now))) := by
  unfold clash
  rw [take_snoc h, List.any_append]
  simp
/-- Of changes whose paths rise, one at most is of a path. -/
theorem clash_once {l : List Chg} {k : Nat} {x y : Chg} (hs : (l.map Chg.path).Pairwise ltP) (h : l[k]? = some y) (hp : x.path = y.path) : clash (l.take k) x = false := by
  unfold clash
  rw [List.any_eq_false]
  intro z hz hc
  obtain ⟨j, hj⟩ := List.getElem?_of_mem hz
  rw [List.getElem?_take] at hj
  split at hj
  · rename_i hjk
    obtain ⟨a1, a2⟩ := List.getElem?_eq_some_iff.1 hj
    obtain ⟨b1, b2⟩ := List.getElem?_eq_some_iff.1 h
    rw [List.pairwise_map] at hs
    have := List.pairwise_iff_getElem.1 hs j k a1 b1 hjk
    rw [a2, b2] at this
    simp only [Bool.and_eq_true, decide_eq_true_eq] at hc
    rw [← hp, hc.1] at this
    exact ls_irr this
  · cases hj
end Go.Proofs.YtjnkbmodcddbkaaDoor
