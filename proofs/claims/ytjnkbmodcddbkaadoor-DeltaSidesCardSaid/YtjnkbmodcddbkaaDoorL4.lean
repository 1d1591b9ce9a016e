/- What a path has in a tree: found node by node, and in the list of entries. -/
import Derived.Test.YtjnkbmodcddbkaaDoorL3
set_option linter.unusedVariables false
set_option linter.unusedSimpArgs false
namespace Go.Proofs.YtjnkbmodcddbkaaDoor
open Go Go.RowKit
/-- Does q begin with k? -/
def prefB (k q : ByteArray) : Bool := decide (k.size ≤ q.size) && decide (q.extract 0 k.size = k)
theorem prefB_iff {k q : ByteArray} : prefB k q = true ↔ ∃ s, bl q = bl k ++ s := by
  unfold prefB
  simp only [Bool.and_eq_true, decide_eq_true_eq]
  constructor
  · rintro ⟨h1, h2⟩
    refine ⟨(bl q).drop k.size, ?_⟩
    have h3 : bl k = (bl q).take k.size := by rw [← h2, bl_ext, List.drop_zero, h2]
    conv => lhs; rw [← List.take_append_drop k.size (bl q), ← h3]
  · rintro ⟨s, hs⟩
    have hl : q.size = k.size + s.length := by rw [← bl_len, hs, List.length_append, bl_len]
    refine ⟨by omega, bl_inj.1 ?_⟩
    rw [bl_ext, hs, List.drop_zero, List.take_append_of_le_length (by rw [bl_len]; omega), ← bl_len, List.take_length]
theorem pref_cut {k q : ByteArray} (h : prefB k q = true) : k ++ q.extract k.size q.size = q := by
  unfold prefB at h
  simp only [Bool.and_eq_true, decide_eq_true_eq] at h
  have := ext_cut q k.size
  rw [h.2] at this
  exact this
def goG : Nat → Trie → ByteArray → List Row
  | 0, _, _ => []
  | f + 1, t, q => if q = ⟨#[]⟩ then t.rows else if hitB t.kids (bt q 0) = true then
      (match t.kids[posF t.kids (bt q 0)]? with
      | none => []
      | some k => if prefB k.label q then goG f k (q.extract k.label.size q.size) else [])
    else []
theorem getL_app_l {A B : List Ent} {p : ByteArray} (h : ∀ e, e ∈ A → e.path ≠ p) : getL (A ++ B) p = getL B p := by
  induction A with
  | nil => rfl
  | cons e r ih => rw [List.cons_append, getL, if_neg (h e (by simp)), ih (fun x hx => h x (by simp [hx]))]
theorem getL_app_r {A B : List Ent} {p : ByteArray} (h : ∀ e, e ∈ B → e.path ≠ p) : getL (A ++ B) p = getL A p := by
  induction A with
  | nil => rw [List.nil_append, getL_none h]; rfl
  | cons e r ih => rw [List.cons_append, getL, getL, ih]
theorem entsL_app (a b : List Trie) (p : ByteArray) : entsL (a ++ b) p = entsL a p ++ entsL b p := by
  induction a with
  | nil => rfl
  | cons t r ih => rw [List.cons_append, entsL_cons, entsL_cons, ih, List.append_assoc]
theorem goG_spec : ∀ (f : Nat) (l : ByteArray) (r : List Row) (ks : List Trie) (P q : ByteArray) (left : Int), q.size < f → kidsB ks left (-1) = true → getL ((if r = [] then [] else [⟨P, r⟩]) ++ entsL ks P) (P ++ q) = goG f (.mk l r ks) q
  | 0, l, r, ks, P, q, left, h, _ => by omega
  | f + 1, l, r, ks, P, q, left, hf, hks => by
    obtain ⟨h5, h6⟩ := kidsB_iff.1 hks
    have hP : ∀ t, t ∈ ks → 0 < t.label.size := fun t ht => (nodeB_lab (h5 t ht).1).1
    rw [goG]
    by_cases hq : q = ⟨#[]⟩
    · subst hq
      rw [if_pos rfl, app_nil]
      have hn : ∀ e, e ∈ entsL ks P → e.path ≠ P := fun e he h => by
        obtain ⟨k, hk, he⟩ := mem_entsL.1 he
        have := (ents_good k P left (h5 k hk).1 e he).2.1
        rw [h] at this
        omega
      rw [getL_app_r hn]
      show _ = r
      by_cases hr : r = []
      · rw [if_pos hr, hr]; rfl
      · rw [if_neg hr, getL, if_pos rfl]
    · rw [if_neg hq]
      have hq0 : 0 < q.size := by
        rcases Nat.eq_zero_or_pos q.size with h | h
        · exact absurd (bl_eq_nil.1 (List.eq_nil_of_length_eq_zero (by rw [bl_len]; exact h))) hq
        · exact h
      have hown : ∀ e, e ∈ (if r = [] then [] else [(⟨P, r⟩ : Ent)]) → e.path ≠ P ++ q := fun e he h => by
        split at he
        · cases he
        · obtain rfl : e = ⟨P, r⟩ := by simpa using he
          have := congrArg ByteArray.size h
          rw [app_size] at this
          simp only at this
          omega
      rw [getL_app_l hown]
      show _ = if hitB ks (bt q 0) = true then (match ks[posF ks (bt q 0)]? with | none => [] | some k => if prefB k.label q then goG f k (q.extract k.label.size q.size) else []) else []
      have hless : ∀ e, e ∈ entsL (ks.take (posF ks (bt q 0))) P → e.path ≠ P ++ q := fun e he h => by
        obtain ⟨k, hk, he⟩ := mem_entsL.1 he
        exact ls_ne (kid_less (hP k (List.mem_of_mem_take hk)) hq0 (pos_take ks _ k hk) he) h.symm
      by_cases hh : hitB ks (bt q 0) = true
      · rw [if_pos hh]
        unfold hitB at hh
        split at hh
        · rename_i k hk
          have hb := of_decide_eq_true hh
          have hkm := List.mem_of_getElem? hk
          rw [hk]
          simp only
          conv => lhs; rw [split_at hk]
          rw [entsL_app, getL_app_l hless, entsL_cons]
          have hpw := h6
          rw [split_at hk, List.pairwise_append] at hpw
          have hmore : ∀ e, e ∈ entsL (ks.drop (posF ks (bt q 0) + 1)) P → e.path ≠ P ++ q := fun e he h => by
            obtain ⟨k', hk', he⟩ := mem_entsL.1 he
            have h1 := (List.pairwise_cons.1 hpw.2.1).1 k' hk'
            exact ls_ne (kid_more (hP k' (List.mem_of_mem_drop hk')) hq0 (by omega) he) h
          rw [getL_app_r hmore]
          obtain ⟨kl, kr, kk⟩ := k
          rw [ents_mk]
          obtain ⟨⟨hl0, hl1⟩, hr, _, hkk⟩ := nodeB_iff.1 (h5 _ hkm).1
          by_cases hpre : prefB kl q = true
          · show _ = if prefB kl q then goG f (.mk kl kr kk) (q.extract kl.size q.size) else []
            rw [if_pos hpre]
            have hc := pref_cut hpre
            conv => lhs; rw [← hc]
            rw [← app_app]
            refine goG_spec f kl kr kk (P ++ kl) _ _ ?_ hkk
            rw [ext_size _ (Nat.le_refl _)]
            omega
          · show _ = if prefB kl q then goG f (.mk kl kr kk) (q.extract kl.size q.size) else []
            rw [if_neg hpre]
            refine getL_none fun e he h => hpre ?_
            have he' : e ∈ (Trie.mk kl kr kk).ents P := by rw [ents_mk]; exact he
            obtain ⟨s, hs⟩ := ents_path _ _ _ he'
            rw [h, bl_app] at hs
            exact prefB_iff.2 ⟨s, List.append_cancel_left hs⟩
        · cases hh
      · rw [if_neg hh]
        refine getL_none fun e he => ?_
        rw [← List.take_append_drop (posF ks (bt q 0)) ks, entsL_app, List.mem_append] at he
        rcases he with he | he
        · exact hless e he
        · intro h
          obtain ⟨k', hk', he⟩ := mem_entsL.1 he
          have h2 := pos_drop ks (bt q 0) h6 k' hk'
          have h3 : bt k'.label 0 ≠ bt q 0 := fun h3 => hh (by
            obtain ⟨j, hj⟩ := List.getElem?_of_mem hk'
            rw [List.getElem?_drop] at hj
            have hx : ∃ x, ks[posF ks (bt q 0)]? = some x := by
              have := (List.getElem?_eq_some_iff.1 hj).1
              exact ⟨ks[posF ks (bt q 0)]'(by omega), List.getElem?_eq_getElem (by omega)⟩
            obtain ⟨x, hx⟩ := hx
            unfold hitB
            rw [hx]
            simp only [decide_eq_true_eq]
            have hxm : x ∈ ks.drop (posF ks (bt q 0)) := List.mem_of_getElem? (i := 0) (by rw [List.getElem?_drop]; simpa using hx)
            have h4 := pos_drop ks (bt q 0) h6 x hxm
            rcases Nat.eq_zero_or_pos j with rfl | hj0
            · rw [Nat.add_zero, hx] at hj
              injection hj with hj
              rw [hj]
              exact h3
            · obtain ⟨a1, a2⟩ := List.getElem?_eq_some_iff.1 hx
              obtain ⟨b1, b2⟩ := List.getElem?_eq_some_iff.1 hj
              have := List.pairwise_iff_getElem.1 h6 (posF ks (bt q 0)) (posF ks (bt q 0) + j) a1 b1 (by omega)
              rw [a2, b2] at this
              omega)
          exact ls_ne (kid_more (hP k' (List.mem_of_mem_drop hk')) hq0 (by omega) he) h
def getP (t : Trie) (p : ByteArray) : List Row := if rightB t then goG (p.size + 1) t p else []
theorem getP_eq (t : Trie) (p : ByteArray) : getP t p = getL (entriesR t) p := by
  unfold getP entriesR
  by_cases h : rightB t = true
  · rw [if_pos h, if_pos h]
    obtain ⟨l, r, ks⟩ := t
    obtain ⟨rfl, rfl, h3⟩ := rightB_iff.1 h
    have := goG_spec (p.size + 1) ⟨#[]⟩ [] ks ⟨#[]⟩ p 24 (Nat.lt_succ_self _) h3
    rw [nil_app] at this
    rw [← this, ents_mk, app_nil]
  · rw [if_neg h, if_neg h]
    rfl
end Go.Proofs.YtjnkbmodcddbkaaDoor
