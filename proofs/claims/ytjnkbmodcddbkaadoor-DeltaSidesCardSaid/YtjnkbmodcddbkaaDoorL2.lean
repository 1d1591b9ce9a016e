/- The plain law of trees, part 2: rows put under a path. -/
import Derived.Test.YtjnkbmodcddbkaaDoorL1
set_option linter.unusedVariables false
set_option linter.unusedSimpArgs false
namespace Go.Proofs.YtjnkbmodcddbkaaDoor
open Go Go.RowKit

/-! ### an entry put among others -/
def insE (l : List Ent) (q : ByteArray) (rows : List Row) : List Ent :=
  l.filter (fun e => Op.bytesLess (bl e.path) (bl q)) ++ ((if rows = [] then [] else [⟨q, rows⟩]) ++ l.filter (fun e => Op.bytesLess (bl q) (bl e.path)))
theorem filt_all {l : List Ent} {p : Ent → Bool} (h : ∀ e, e ∈ l → p e = true) : l.filter p = l := List.filter_eq_self.2 h
theorem filt_none {l : List Ent} {p : Ent → Bool} (h : ∀ e, e ∈ l → p e = false) : l.filter p = [] := List.filter_eq_nil_iff.2 (fun e he => by rw [h e he]; simp)
theorem ls_false {a b : List UInt8} (h : ¬ LS a b) : Op.bytesLess a b = false := by simpa using h
theorem insE_mid {A M B : List Ent} {q : ByteArray} {rows : List Row} (hA : ∀ e, e ∈ A → LS (bl e.path) (bl q)) (hB : ∀ e, e ∈ B → LS (bl q) (bl e.path)) : insE (A ++ (M ++ B)) q rows = A ++ (insE M q rows ++ B) := by
  unfold insE
  simp only [List.filter_append]
  rw [filt_all (l := A) hA, filt_none (l := A) (fun e he => ls_false (ls_asym (hA e he))), filt_all (l := B) hB, filt_none (l := B) (fun e he => ls_false (ls_asym (hB e he)))]
  simp
theorem insE_nil (q : ByteArray) (rows : List Row) : insE [] q rows = if rows = [] then [] else [⟨q, rows⟩] := by simp [insE]
/-- A path that is not there is taken out. -/
theorem insE_none {l : List Ent} {q : ByteArray} (hs : l.Pairwise ltE) (hn : ∀ e, e ∈ l → e.path ≠ q) : insE l q [] = l := by
  induction l with
  | nil => simp [insE]
  | cons e l ih =>
    rw [List.pairwise_cons] at hs
    have hne := hn e (by simp)
    rcases ls_tri (bl e.path) (bl q) with h | h | h
    · have := insE_mid (A := [e]) (M := l) (B := []) (q := q) (rows := []) (fun x hx => by simp at hx; rw [hx]; exact h) (fun x hx => by cases hx)
      simp only [List.append_nil, List.singleton_append] at this
      rw [this, ih hs.2 (fun x hx => hn x (by simp [hx]))]
    · exact absurd (bl_inj.1 h) hne
    · have := insE_mid (A := []) (M := []) (B := e :: l) (q := q) (rows := []) (fun x hx => by cases hx) (fun x hx => by
        rcases List.mem_cons.1 hx with rfl | hx
        · exact h
        · exact ls_trans h (hs.1 x hx))
      simpa [insE_nil] using this

/-! ### places -/
theorem pos_le (ks : List Trie) (b : Int) : posF ks b ≤ ks.length := by
  unfold posF
  exact (List.takeWhile_sublist _).length_le
theorem pos_take : ∀ (ks : List Trie) (b : Int), ∀ t, t ∈ ks.take (posF ks b) → bt t.label 0 < b
  | [], b, t, h => by simp at h
  | k :: ks, b, t, h => by
    unfold posF at h
    rw [List.takeWhile_cons] at h
    split at h
    · rename_i hk
      rw [List.length_cons, List.take_succ_cons] at h
      rcases List.mem_cons.1 h with rfl | h
      · exact of_decide_eq_true hk
      · exact pos_take ks b t h
    · simp at h
theorem pos_drop : ∀ (ks : List Trie) (b : Int), ks.Pairwise (fun a b => bt a.label 0 < bt b.label 0) → ∀ t, t ∈ ks.drop (posF ks b) → b ≤ bt t.label 0
  | [], b, _, t, h => by simp at h
  | k :: ks, b, hp, t, h => by
    unfold posF at h
    rw [List.takeWhile_cons] at h
    rw [List.pairwise_cons] at hp
    split at h
    · rw [List.length_cons, List.drop_succ_cons] at h
      exact pos_drop ks b hp.2 t h
    · rename_i hk
      have hk' : ¬ bt k.label 0 < b := by simpa using hk
      rw [List.length_nil, List.drop_zero] at h
      rcases List.mem_cons.1 h with rfl | h
      · omega
      · have := hp.1 t h; omega
theorem split_at {α : Type} {l : List α} {i : Nat} {x : α} (h : l[i]? = some x) : l = l.take i ++ (x :: l.drop (i + 1)) := by
  conv => lhs; rw [← List.take_append_drop i l]
  rw [drop_cons h]
theorem set_split {α : Type} {l : List α} {i : Nat} {x y : α} (h : l[i]? = some x) : l.set i y = l.take i ++ (y :: l.drop (i + 1)) := by
  rw [List.set_eq_take_append_cons_drop, if_pos (List.getElem?_eq_some_iff.1 h).1]

/-! ### what texts begin with alike -/
theorem shF_spec (a b : ByteArray) : ∀ (f n : Nat), a.size ≤ n + f → n ≤ a.size → n ≤ b.size → (bl a).take n = (bl b).take n →
    n ≤ shF a b f n ∧ shF a b f n ≤ a.size ∧ shF a b f n ≤ b.size ∧ (bl a).take (shF a b f n) = (bl b).take (shF a b f n) ∧ (shF a b f n < a.size → shF a b f n < b.size → bt a (shF a b f n : Nat) ≠ bt b (shF a b f n : Nat))
  | 0, n, h0, h1, h2, h3 => by
    simp only [shF]
    exact ⟨Nat.le_refl _, h1, h2, h3, fun h => by omega⟩
  | f + 1, n, h0, h1, h2, h3 => by
    simp only [shF]
    split
    · rename_i hc
      obtain ⟨hc1, hc2, hc3⟩ := hc
      have hl1 : n < (bl a).length := by rw [bl_len]; exact hc1
      have hl2 : n < (bl b).length := by rw [bl_len]; exact hc2
      have := shF_spec a b f (n + 1) (by omega) hc1 hc2 (by
        rw [bt_bl, bt_bl, List.getElem?_eq_getElem hl1, List.getElem?_eq_getElem hl2] at hc3
        simp only [Option.map_some, Option.getD_some, Int.natCast_inj] at hc3
        rw [List.take_add_one, List.take_add_one, h3, List.getElem?_eq_getElem hl1, List.getElem?_eq_getElem hl2, UInt8.toNat_inj.1 hc3])
      exact ⟨by omega, this.2⟩
    · rename_i hc
      exact ⟨Nat.le_refl _, h1, h2, h3, fun k1 k2 k3 => hc ⟨k1, k2, k3⟩⟩
theorem shR_spec (a b : ByteArray) : shR a b ≤ a.size ∧ shR a b ≤ b.size ∧ (bl a).take (shR a b) = (bl b).take (shR a b) ∧ (shR a b < a.size → shR a b < b.size → bt a (shR a b : Nat) ≠ bt b (shR a b : Nat)) := by
  have := shF_spec a b a.size 0 (by omega) (by omega) (by omega) (by simp)
  exact this.2
theorem shR_pos {a b : ByteArray} (ha : 0 < a.size) (hb : 0 < b.size) (h : bt a 0 = bt b 0) : 0 < shR a b := by
  have := shR_spec a b
  rcases Nat.eq_zero_or_pos (shR a b) with h0 | h0
  · rw [h0] at this
    exact absurd h (this.2.2.2 ha hb)
  · exact h0
theorem ext_shared {a b : ByteArray} : a.extract 0 (shR a b) = b.extract 0 (shR a b) := bl_inj.1 (by rw [bl_ext, bl_ext, (shR_spec a b).2.2.1])
theorem ext_full (a : ByteArray) : a.extract 0 a.size = a := bl_inj.1 (by rw [bl_ext, ← bl_len, List.take_length, List.drop_zero])
theorem ext_cut (a : ByteArray) (n : Nat) : a.extract 0 n ++ a.extract n a.size = a := bl_inj.1 (by rw [bl_app, bl_ext, bl_ext, ← bl_len, List.take_length, List.drop_zero, List.take_append_drop])
theorem ext_size (a : ByteArray) {i j : Nat} (h : j ≤ a.size) : (a.extract i j).size = j - i := by
  rw [← bl_len, bl_ext, List.length_drop, List.length_take, bl_len]; omega
theorem ext_first (a : ByteArray) {n : Nat} (h : 0 < n) : bt (a.extract 0 n) 0 = bt a 0 := by
  rw [bt_bl0, bt_bl0, bl_ext, List.drop_zero, List.getElem?_take, if_pos h]

/-! ### rows put below a node -/
def trPut : Nat → Trie → ByteArray → List Row → Trie
  | 0, t, _, _ => t
  | f + 1, .mk l r ks, path, rows =>
    if path = ⟨#[]⟩ then .mk l rows ks
    else if hitB ks (bt path 0) then
      match ks[posF ks (bt path 0)]? with
      | none => .mk l r ks
      | some kid =>
        if shR kid.label path < kid.label.size ∧ rows = [] then .mk l r ks
        else if (joinedT (trPut f (if shR kid.label path < kid.label.size then splitT kid (shR kid.label path) else kid) (path.extract (shR kid.label path) path.size) rows)).2
        then .mk l r (ks.take (posF ks (bt path 0)) ++ ((joinedT (trPut f (if shR kid.label path < kid.label.size then splitT kid (shR kid.label path) else kid) (path.extract (shR kid.label path) path.size) rows)).1 :: ks.drop (posF ks (bt path 0) + 1)))
        else .mk l r (ks.take (posF ks (bt path 0)) ++ ks.drop (posF ks (bt path 0) + 1))
    else if rows = [] then .mk l r ks else .mk l r (ks.take (posF ks (bt path 0)) ++ (.mk path rows [] :: ks.drop (posF ks (bt path 0))))
/-- A node that may be too little to stand. -/
def wk (t : Trie) (left : Int) : Prop := 0 < t.label.size ∧ (t.label.size : Int) ≤ left ∧ rowsB t.rows = true ∧ kidsB t.kids (left - t.label.size) (-1) = true
theorem wk_of {t : Trie} {left : Int} (h : nodeB t left = true) : wk t left := by
  obtain ⟨l, r, ks⟩ := t
  obtain ⟨h1, h2, h3, h4⟩ := nodeB_iff.1 h
  exact ⟨h1.1, h1.2, h2, h4⟩
theorem split_wk {t : Trie} {left : Int} {n : Nat} (h : nodeB t left = true) (h0 : 0 < n) (hn : n < t.label.size) : wk (splitT t n) left ∧ (splitT t n).label = t.label.extract 0 n ∧ ∀ p, (splitT t n).ents p = t.ents p := by
  obtain ⟨l, r, ks⟩ := t
  obtain ⟨h1, h2, h3, h4⟩ := nodeB_iff.1 h
  simp only [Trie.label] at hn ⊢
  have e1 : (l.extract 0 n).size = n := by rw [ext_size _ (by omega)]; omega
  have e2 : (l.extract n l.size).size = l.size - n := ext_size _ (Nat.le_refl _)
  refine ⟨⟨?_, ?_, rfl, ?_⟩, rfl, fun p => ?_⟩
  · simp only [splitT, Trie.label]; omega
  · simp only [splitT, Trie.label]; omega
  · simp only [splitT, Trie.label, Trie.kids]
    refine kidsB_iff.2 ⟨fun t ht => ?_, by simp⟩
    obtain rfl : t = _ := by simpa using ht
    refine ⟨nodeB_iff.2 ⟨⟨by omega, by omega⟩, h2, h3, ?_⟩, ?_⟩
    · rw [e1, e2]
      rw [show left - (n : Int) - ((l.size - n : Nat) : Int) = left - l.size by omega]
      exact h4
    · have := bt_range (Trie.mk (l.extract n l.size) r ks).label 0
      omega
  · simp only [splitT, Trie.ents, entsL, if_true, List.nil_append, List.append_nil]
    rw [app_app, ext_cut]
theorem join_wk {t : Trie} {left : Int} (h : wk t left) : ((joinedT t).2 = true → nodeB (joinedT t).1 left = true ∧ bt (joinedT t).1.label 0 = bt t.label 0 ∧ ∀ p, (joinedT t).1.ents p = t.ents p) ∧ ((joinedT t).2 = false → ∀ p, t.ents p = []) := by
  obtain ⟨l, r, ks⟩ := t
  obtain ⟨h1, h2, h3, h4⟩ := h
  simp only [Trie.label, Trie.rows, Trie.kids] at h1 h2 h3 h4
  simp only [joinedT]
  split
  · rename_i hc
    refine ⟨fun _ => ⟨nodeB_iff.2 ⟨⟨h1, h2⟩, h3, ?_, h4⟩, rfl, fun p => rfl⟩, fun h => by cases h⟩
    rintro ⟨h5, h6⟩
    rcases hc with hc | hc
    · exact hc h5
    · omega
  · rename_i hc
    have hr : r = [] := Classical.byContradiction fun h => hc (.inl h)
    subst hr
    rcases ks with _ | ⟨k, _ | ⟨k2, ks⟩⟩
    · refine ⟨fun h => (by cases h), fun _ p => (by simp [Trie.ents, entsL])⟩
    · have hk := (kidsB_iff.1 h4).1 k (by simp)
      obtain ⟨kl, kr, kk⟩ := k
      obtain ⟨k1, k2, k3, k4⟩ := nodeB_iff.1 hk.1
      refine ⟨fun _ => ⟨?_, ?_, fun p => ?_⟩, fun h => by cases h⟩
      · refine nodeB_iff.2 ⟨⟨?_, ?_⟩, k2, k3, ?_⟩
        · simp only [Trie.label, app_size]; omega
        · simp only [Trie.label, app_size]; omega
        · simp only [Trie.label, app_size]
          rw [show left - ((l.size + kl.size : Nat) : Int) = left - l.size - kl.size by omega]
          exact k4
      · simp only [Trie.label]
        rw [bt_bl0, bt_bl0, bl_app]
        rw [List.getElem?_append_left (by rw [bl_len]; exact h1)]
      · simp only [Trie.ents, entsL, Trie.label, Trie.rows, Trie.kids, if_true, List.nil_append, List.append_nil, app_app]
        try rfl
    · exact absurd (.inr (by simp)) hc
theorem entsL_cons (t : Trie) (r : List Trie) (p : ByteArray) : entsL (t :: r) p = t.ents p ++ entsL r p := rfl
/-- Entries of kids with a lesser first byte, and with a greater one, about a path. -/
theorem kid_less {k : Trie} {P path : ByteArray} {e : Ent} (hk : 0 < k.label.size) (hp : 0 < path.size) (hb : bt k.label 0 < bt path 0) (he : e ∈ k.ents P) : LS (bl e.path) (bl (P ++ path)) := by
  obtain ⟨s, hs⟩ := ents_path _ _ _ he
  rw [hs, bl_app, ← List.append_nil (bl path)]
  exact ls_first hk hp hb _ _ _
theorem kid_more {k : Trie} {P path : ByteArray} {e : Ent} (hk : 0 < k.label.size) (hp : 0 < path.size) (hb : bt path 0 < bt k.label 0) (he : e ∈ k.ents P) : LS (bl (P ++ path)) (bl e.path) := by
  obtain ⟨s, hs⟩ := ents_path _ _ _ he
  rw [hs, bl_app, ← List.append_nil (bl path)]
  exact ls_first hp hk hb _ _ _
theorem pw_cat {A B : List Trie} {k : Trie} (hA : A.Pairwise (fun a b => bt a.label 0 < bt b.label 0)) (hB : B.Pairwise (fun a b => bt a.label 0 < bt b.label 0)) (h1 : ∀ a, a ∈ A → bt a.label 0 < bt k.label 0) (h2 : ∀ a, a ∈ B → bt k.label 0 < bt a.label 0) : (A ++ k :: B).Pairwise (fun a b => bt a.label 0 < bt b.label 0) := by
  rw [List.pairwise_append, List.pairwise_cons]
  refine ⟨hA, ⟨h2, hB⟩, fun a ha b hb => ?_⟩
  rcases List.mem_cons.1 hb with rfl | hb
  · exact h1 a ha
  · have := h1 a ha
    have := h2 b hb
    omega
theorem ents_mk (l : ByteArray) (r : List Row) (ks : List Trie) (p : ByteArray) : (Trie.mk l r ks).ents p = (if r = [] then [] else [⟨p ++ l, r⟩]) ++ entsL ks (p ++ l) := by rw [Trie.ents]
theorem put_spec : ∀ (f : Nat) (l : ByteArray) (r : List Row) (ks : List Trie) (path : ByteArray) (rows : List Row) (left : Int), path.size < f → (path.size : Int) ≤ left → rowsB rows = true → kidsB ks left (-1) = true →
    ∃ r' ks', trPut f (.mk l r ks) path rows = .mk l r' ks' ∧ r' = (if path = ⟨#[]⟩ then rows else r) ∧ kidsB ks' left (-1) = true ∧ ∀ p, (Trie.mk l r' ks').ents p = insE ((Trie.mk l r ks).ents p) (p ++ l ++ path) rows
  | 0, _, _, _, _, _, _, h, _, _, _ => absurd h (by omega)
  | f + 1, l, r, ks, path, rows, left, hf, hl, hrows, hks => by
    obtain ⟨h5, h6⟩ := kidsB_iff.1 hks
    rw [trPut]
    by_cases hp : path = ⟨#[]⟩
    · subst hp
      rw [if_pos rfl]
      refine ⟨rows, ks, rfl, (if_pos rfl).symm, hks, fun p => ?_⟩
      rw [ents_mk, ents_mk, app_nil]
      have hB : ∀ e, e ∈ entsL ks (p ++ l) → LS (bl (p ++ l)) (bl e.path) := fun e he => by
        obtain ⟨k, hk, he⟩ := mem_entsL.1 he
        obtain ⟨s, hs⟩ := ents_path _ _ _ he
        rw [hs]
        refine ls_pre (fun h0 => ?_)
        have := (nodeB_lab (h5 k hk).1).1
        rw [← bl_len] at this
        simp [(List.append_eq_nil_iff.1 h0).1] at this
      have := insE_mid (A := []) (M := if r = [] then [] else [(⟨p ++ l, r⟩ : Ent)]) (B := entsL ks (p ++ l)) (q := p ++ l) (rows := rows) (fun e he => by cases he) hB
      simp only [List.nil_append] at this
      rw [this]
      congr 1
      by_cases hr : r = []
      · rw [if_pos hr, insE_nil]
      · rw [if_neg hr]
        unfold insE
        rw [filt_none (fun e he => by simp at he; subst he; exact ls_false ls_irr), filt_none (fun e he => by simp at he; subst he; exact ls_false ls_irr)]
        simp
    · rw [if_neg hp]
      have hps := ne_pos hp
      -- what stands ahead of, and behind the place
      have hown : ∀ (p : ByteArray) (e : Ent), e ∈ (if r = [] then [] else [(⟨p ++ l, r⟩ : Ent)]) → LS (bl e.path) (bl (p ++ l ++ path)) := fun p e he => by
        split at he
        · cases he
        · obtain rfl : e = _ := by simpa using he
          show LS (bl (p ++ l)) _
          rw [bl_app _ path]
          refine ls_pre (fun h0 => hp (bl_eq_nil.1 h0))
      have hA : ∀ (p : ByteArray) (e : Ent), e ∈ entsL (ks.take (posF ks (bt path 0))) (p ++ l) → LS (bl e.path) (bl (p ++ l ++ path)) := fun p e he => by
        obtain ⟨k, hk, he⟩ := mem_entsL.1 he
        exact kid_less (nodeB_lab (h5 k (List.mem_of_mem_take hk)).1).1 hps (pos_take _ _ k hk) he
      have main : ∀ (M M' B : List Trie), ks = ks.take (posF ks (bt path 0)) ++ (M ++ B) → (∀ (p : ByteArray) (e : Ent), e ∈ entsL B (p ++ l) → LS (bl (p ++ l ++ path)) (bl e.path)) → (∀ p, entsL M' (p ++ l) = insE (entsL M (p ++ l)) (p ++ l ++ path) rows) →
          ∀ p, (Trie.mk l r (ks.take (posF ks (bt path 0)) ++ (M' ++ B))).ents p = insE ((Trie.mk l r ks).ents p) (p ++ l ++ path) rows := fun M M' B e1 e2 e3 p => by
        rw [ents_mk, ents_mk]
        conv => rhs; rw [e1]
        simp only [entsL_append]
        rw [← List.append_assoc, ← List.append_assoc (if r = [] then [] else [(⟨p ++ l, r⟩ : Ent)]) (entsL (ks.take (posF ks (bt path 0))) (p ++ l)) (entsL M (p ++ l) ++ entsL B (p ++ l)), insE_mid (fun e he => (List.mem_append.1 he).elim (hown p e) (hA p e)) (e2 p), e3 p]
      by_cases hh : hitB ks (bt path 0) = true
      · rw [if_pos hh]
        unfold hitB at hh
        cases hk : ks[posF ks (bt path 0)]? with
        | none => rw [hk] at hh; cases hh
        | some kid =>
          rw [hk] at hh
          have hb : bt kid.label 0 = bt path 0 := of_decide_eq_true hh
          have hkm := List.mem_of_getElem? hk
          have hkn := (h5 kid hkm).1
          have hkl := nodeB_lab hkn
          have hsp := split_at hk
          have h6' := h6
          rw [hsp, List.pairwise_append, List.pairwise_cons] at h6'
          have hB : ∀ (p : ByteArray) (e : Ent), e ∈ entsL (ks.drop (posF ks (bt path 0) + 1)) (p ++ l) → LS (bl (p ++ l ++ path)) (bl e.path) := fun p e he => by
            obtain ⟨k, hk2, he⟩ := mem_entsL.1 he
            have := h6'.2.1.1 k hk2
            exact kid_more (nodeB_lab (h5 k (List.mem_of_mem_drop hk2)).1).1 hps (by omega) he
          obtain ⟨hs1, hs2, hs3, hs4⟩ := shR_spec kid.label path
          have hs0 := shR_pos hkl.1 hps hb
          have hsh := ext_shared (a := kid.label) (b := path)
          simp only
          generalize hnn : shR kid.label path = n at *
          by_cases hc : n < kid.label.size ∧ rows = []
          · rw [if_pos hc]
            obtain ⟨hc1, rfl⟩ := hc
            refine ⟨r, ks, rfl, (if_neg hp).symm, hks, fun p => ?_⟩
            have := main [kid] [kid] (ks.drop (posF ks (bt path 0) + 1)) hsp hB (fun p => by
              simp only [entsL, List.append_nil]
              refine (insE_none (ents_sorted _ _ _ hkn) (fun e he heq => ?_)).symm
              obtain ⟨s, hs⟩ := ents_path _ _ _ he
              rw [heq, bl_app] at hs
              have e2 := List.append_cancel_left hs
              have e3 := congrArg List.length e2
              rw [List.length_append, bl_len, bl_len] at e3
              refine hs4 hc1 (by omega) ?_
              rw [bt_bl, bt_bl, e2, List.getElem?_append_left (by rw [bl_len]; exact hc1)]) p
            rw [show ks.take (posF ks (bt path 0)) ++ ([kid] ++ ks.drop (posF ks (bt path 0) + 1)) = ks from hsp.symm] at this
            exact this
          · rw [if_neg hc]
            -- the kid that is gone into
            obtain ⟨kid1, hkid1, hw, hlab, hents⟩ : ∃ kid1, (if n < kid.label.size then splitT kid n else kid) = kid1 ∧ wk kid1 left ∧ kid1.label = path.extract 0 n ∧ ∀ p, kid1.ents p = kid.ents p := by
              by_cases hc1 : n < kid.label.size
              · rw [if_pos hc1]
                obtain ⟨w1, w2, w3⟩ := split_wk hkn hs0 hc1
                exact ⟨_, rfl, w1, by rw [w2, hsh], w3⟩
              · rw [if_neg hc1]
                refine ⟨kid, rfl, wk_of hkn, ?_, fun p => rfl⟩
                rw [← hsh, show n = kid.label.size by omega, ext_full]
            rw [hkid1]
            obtain ⟨l1, r1, ks1⟩ := kid1
            obtain ⟨w1, w2, w3, w4⟩ := hw
            simp only [Trie.label, Trie.rows, Trie.kids] at w1 w2 w3 w4 hlab
            have hl1 : l1.size = n := by rw [hlab, ext_size _ hs2]; omega
            obtain ⟨r2, ks2, e1, e2, e3, e4⟩ := put_spec f l1 r1 ks1 (path.extract n path.size) rows (left - l1.size) (by rw [ext_size _ (Nat.le_refl _)]; omega) (by rw [ext_size _ (Nat.le_refl _)]; omega) hrows w4
            rw [e1]
            have hw2 : wk (.mk l1 r2 ks2) left := ⟨w1, w2, by
              show rowsB r2 = true
              rw [e2]
              split
              · exact hrows
              · exact w3, e3⟩
            have hpp : ∀ p : ByteArray, p ++ l ++ l1 ++ path.extract n path.size = p ++ l ++ path := fun p => by rw [app_app (p ++ l), hlab, ext_cut]
            have hk1b : bt l1 0 = bt path 0 := by rw [hlab, ext_first _ hs0]
            obtain ⟨j1, j2⟩ := join_wk hw2
            by_cases hj : (joinedT (.mk l1 r2 ks2)).2 = true
            · rw [if_pos hj]
              obtain ⟨n1, n2, n3⟩ := j1 hj
              refine ⟨r, _, rfl, (if_neg hp).symm, ?_, main [kid] [(joinedT (.mk l1 r2 ks2)).1] _ hsp hB (fun p => ?_)⟩
              · have hbb : bt (joinedT (.mk l1 r2 ks2)).1.label 0 = bt kid.label 0 := by rw [n2, hb]; exact hk1b
                refine kidsB_iff.2 ⟨fun t ht => ?_, pw_cat h6'.1 h6'.2.1.2 (fun a ha => by rw [hbb]; exact h6'.2.2 a ha kid (by simp)) (fun a ha => by rw [hbb]; exact h6'.2.1.1 a ha)⟩
                rcases List.mem_append.1 ht with ht | ht
                · exact h5 t (List.mem_of_mem_take ht)
                · rcases List.mem_cons.1 ht with rfl | ht
                  · refine ⟨n1, ?_⟩
                    have := bt_range (joinedT (.mk l1 r2 ks2)).1.label 0
                    omega
                  · exact h5 t (List.mem_of_mem_drop ht)
              · simp only [entsL, List.append_nil]
                rw [n3, e4, hents, hpp]
            · rw [if_neg hj]
              refine ⟨r, _, rfl, (if_neg hp).symm, ?_, main [kid] [] _ hsp hB (fun p => ?_)⟩
              · refine kidsB_iff.2 ⟨fun t ht => ?_, ?_⟩
                · rcases List.mem_append.1 ht with ht | ht
                  · exact h5 t (List.mem_of_mem_take ht)
                  · exact h5 t (List.mem_of_mem_drop ht)
                · rw [List.pairwise_append]
                  exact ⟨h6'.1, h6'.2.1.2, fun a ha b hb => h6'.2.2 a ha b (by simp [hb])⟩
              · simp only [entsL, List.append_nil]
                have := e4 (p ++ l)
                rw [j2 (by simpa using hj), hents, hpp] at this
                exact this
      · rw [if_neg hh]
        have hB : ∀ t, t ∈ ks.drop (posF ks (bt path 0)) → bt path 0 < bt t.label 0 := fun t ht => by
          have h1 := pos_drop ks (bt path 0) h6 t ht
          obtain ⟨j, hj⟩ := List.getElem?_of_mem ht
          rw [List.getElem?_drop] at hj
          have hlt : posF ks (bt path 0) < ks.length := by
            have := (List.getElem?_eq_some_iff.1 hj).1
            omega
          have hx := List.getElem?_eq_getElem hlt
          unfold hitB at hh
          rw [hx] at hh
          have h2 : bt (ks[posF ks (bt path 0)]).label 0 ≠ bt path 0 := by simpa using hh
          have h3 := pos_drop ks (bt path 0) h6 (ks[posF ks (bt path 0)]) (by rw [drop_cons hx]; exact List.mem_cons_self)
          rw [drop_cons hx] at ht
          have h4 := split_at hx
          rw [h4, List.pairwise_append, List.pairwise_cons] at h6
          rcases List.mem_cons.1 ht with rfl | ht
          · omega
          · have := h6.2.1.1 t ht
            omega
        have hBB : ∀ (p : ByteArray) (e : Ent), e ∈ entsL (ks.drop (posF ks (bt path 0))) (p ++ l) → LS (bl (p ++ l ++ path)) (bl e.path) := fun p e he => by
          obtain ⟨k, hk2, he⟩ := mem_entsL.1 he
          exact kid_more (nodeB_lab (h5 k (List.mem_of_mem_drop hk2)).1).1 hps (hB k hk2) he
        have hcut : ks = ks.take (posF ks (bt path 0)) ++ ([] ++ ks.drop (posF ks (bt path 0))) := by simp
        by_cases hr : rows = []
        · rw [if_pos hr]
          refine ⟨r, ks, rfl, (if_neg hp).symm, hks, fun p => ?_⟩
          have := main [] [] _ hcut hBB (fun p => by simp [entsL, insE_nil, hr]) p
          rw [← hcut] at this
          exact this
        · rw [if_neg hr]
          refine ⟨r, _, rfl, (if_neg hp).symm, ?_, main [] [.mk path rows []] _ hcut hBB (fun p => ?_)⟩
          · have hd : (ks.take (posF ks (bt path 0)) ++ ks.drop (posF ks (bt path 0))).Pairwise (fun a b => bt a.label 0 < bt b.label 0) := by rw [List.take_append_drop]; exact h6
            rw [List.pairwise_append] at hd
            refine kidsB_iff.2 ⟨fun t ht => ?_, pw_cat hd.1 hd.2.1 (fun a ha => pos_take _ _ a ha) hB⟩
            rcases List.mem_append.1 ht with ht | ht
            · exact h5 t (List.mem_of_mem_take ht)
            · rcases List.mem_cons.1 ht with rfl | ht
              · refine ⟨nodeB_iff.2 ⟨⟨hps, hl⟩, hrows, fun h => hr h.1, rfl⟩, ?_⟩
                have := bt_range (Trie.mk path rows []).label 0
                omega
              · exact h5 t (List.mem_of_mem_drop ht)
          · simp only [entsL, List.append_nil, insE_nil, if_neg hr, Trie.ents]
/-- Rows put under a path of a right tree. -/
def putR (t : Trie) (path : ByteArray) (rows : List Row) : Trie := trPut (path.size + 1) t path rows
def isPath (p : ByteArray) : Bool := decide (p ≠ ⟨#[]⟩ ∧ p.size ≤ 24)
theorem put_right {t : Trie} {path : ByteArray} {rows : List Row} (ht : rightB t = true) (hp : isPath path = true) (hr : rowsB rows = true) : rightB (putR t path rows) = true ∧ (putR t path rows).ents ⟨#[]⟩ = insE (t.ents ⟨#[]⟩) path rows := by
  obtain ⟨l, r, ks⟩ := t
  obtain ⟨rfl, rfl, h3⟩ := rightB_iff.1 ht
  have hp := of_decide_eq_true hp
  obtain ⟨r', ks', e1, e2, e3, e4⟩ := put_spec (path.size + 1) ⟨#[]⟩ [] ks path rows 24 (by omega) (by omega) hr h3
  rw [if_neg hp.1] at e2
  subst e2
  unfold putR
  rw [e1]
  refine ⟨rightB_iff.2 ⟨rfl, rfl, e3⟩, ?_⟩
  rw [e4, app_nil, nil_app]
theorem right_sorted {t : Trie} (h : rightB t = true) : (t.ents ⟨#[]⟩).Pairwise ltE := by
  obtain ⟨l, r, ks⟩ := t
  obtain ⟨rfl, rfl, h3⟩ := rightB_iff.1 h
  rw [ents_mk, if_pos rfl, List.nil_append]
  exact kids_sorted h3
theorem right_good {t : Trie} (h : rightB t = true) : ∀ e, e ∈ t.ents ⟨#[]⟩ → isPath e.path = true ∧ rowsB e.rows = true ∧ e.rows ≠ [] := by
  obtain ⟨l, r, ks⟩ := t
  obtain ⟨rfl, rfl, h3⟩ := rightB_iff.1 h
  intro e he
  rw [ents_mk, if_pos rfl, List.nil_append, app_nil] at he
  obtain ⟨k, hk, he⟩ := mem_entsL.1 he
  have := ents_good k _ _ ((kidsB_iff.1 h3).1 k hk).1 e he
  refine ⟨decide_eq_true ⟨fun h0 => ?_, ?_⟩, this.2.2⟩
  · rw [h0] at this; have := this.2.1; simp [ByteArray.size] at this
  · have h1 := this.1
    have : (⟨#[]⟩ : ByteArray).size = 0 := rfl
    omega
theorem right_nil : rightB (.mk ⟨#[]⟩ [] []) = true := by decide
end Go.Proofs.YtjnkbmodcddbkaaDoor
