/- The plain law of trees, part 1: order of texts, entries of right trees, putting rows under a path, the tree made of entries. -/
import Derived.Test.YtjnkbmodcddbkaaDoorDat
set_option linter.unusedVariables false
set_option linter.unusedSimpArgs false
namespace Go.Proofs.YtjnkbmodcddbkaaDoor
open Go Go.RowKit

/-! ### bytes -/
abbrev LS (a b : List UInt8) : Prop := Op.bytesLess a b = true
theorem ls_cons {a b : UInt8} {x y : List UInt8} : LS (a :: x) (b :: y) ↔ a.toNat < b.toNat ∨ (a.toNat = b.toNat ∧ LS x y) := by
  unfold LS
  rw [Op.bytesLess]
  simp only [Bool.or_eq_true, decide_eq_true_eq, Bool.and_eq_true, beq_iff_eq, UInt8.lt_iff_toNat_lt, ← UInt8.toNat_inj]
theorem ls_nil {x : List UInt8} : ¬ LS x [] := by unfold LS; cases x <;> simp [Op.bytesLess]
theorem ls_nil_cons {b : UInt8} {y : List UInt8} : LS [] (b :: y) := rfl
theorem ls_irr : ∀ {a : List UInt8}, ¬ LS a a
  | [] => ls_nil
  | a :: x => fun h => by
    rcases ls_cons.1 h with h | h
    · omega
    · exact ls_irr h.2
theorem ls_trans : ∀ {a b c : List UInt8}, LS a b → LS b c → LS a c
  | a, b, [], _, h => absurd h ls_nil
  | a, [], _, h, _ => absurd h ls_nil
  | [], _ :: _, _ :: _, _, _ => rfl
  | a :: x, b :: y, c :: z, h, k => by
    rcases ls_cons.1 h with h | h <;> rcases ls_cons.1 k with k | k
    · exact ls_cons.2 (.inl (by omega))
    · exact ls_cons.2 (.inl (by omega))
    · exact ls_cons.2 (.inl (by omega))
    · exact ls_cons.2 (.inr ⟨by omega, ls_trans h.2 k.2⟩)
theorem ls_tri : ∀ (a b : List UInt8), LS a b ∨ a = b ∨ LS b a
  | [], [] => .inr (.inl rfl)
  | [], _ :: _ => .inl rfl
  | _ :: _, [] => .inr (.inr rfl)
  | a :: x, b :: y => by
    rcases Nat.lt_trichotomy a.toNat b.toNat with h | h | h
    · exact .inl (ls_cons.2 (.inl h))
    · rcases ls_tri x y with k | k | k
      · exact .inl (ls_cons.2 (.inr ⟨h, k⟩))
      · exact .inr (.inl (by rw [UInt8.toNat_inj.1 h, k]))
      · exact .inr (.inr (ls_cons.2 (.inr ⟨h.symm, k⟩)))
    · exact .inr (.inr (ls_cons.2 (.inl h)))
theorem ls_asym {a b : List UInt8} (h : LS a b) : ¬ LS b a := fun k => ls_irr (ls_trans h k)
theorem ls_app (p : List UInt8) {x y : List UInt8} : LS (p ++ x) (p ++ y) ↔ LS x y := by
  induction p with
  | nil => rfl
  | cons a p ih => rw [List.cons_append, List.cons_append, ls_cons, ih]; simp
theorem ls_pre {p s : List UInt8} (h : s ≠ []) : LS p (p ++ s) := by
  have := (ls_app p (x := []) (y := s)).2 (by cases s with | nil => exact absurd rfl h | cons _ _ => rfl)
  simpa using this
theorem bl_app (a b : ByteArray) : bl (a ++ b) = bl a ++ bl b := by simp [bl]
theorem bl_len (a : ByteArray) : (bl a).length = a.size := by unfold bl; rw [Array.length_toList]; rfl
theorem bl_nil : bl ⟨#[]⟩ = [] := rfl
theorem bl_eq_nil {a : ByteArray} : bl a = [] ↔ a = ⟨#[]⟩ := bl_inj (b := ⟨#[]⟩)
theorem bl_ext (a : ByteArray) (i j : Nat) : bl (a.extract i j) = ((bl a).take j).drop i := by simp [bl, ByteArray.data_extract, List.drop_take]
theorem app_nil (p : ByteArray) : p ++ (⟨#[]⟩ : ByteArray) = p := bl_inj.1 (by rw [bl_app, bl_nil, List.append_nil])
theorem nil_app (p : ByteArray) : (⟨#[]⟩ : ByteArray) ++ p = p := bl_inj.1 (by rw [bl_app, bl_nil, List.nil_append])
theorem app_app (a b c : ByteArray) : a ++ b ++ c = a ++ (b ++ c) := bl_inj.1 (by simp [bl_app])
theorem bt_bl (a : ByteArray) (i : Nat) : bt a (i : Int) = (((bl a)[i]?).map (fun b => (b.toNat : Int))).getD 0 := by
  unfold bt bl
  simp only [Int.toNat_natCast]
  split
  · rename_i h
    have h2 : i < a.data.toList.length := by rw [Array.length_toList]; exact h
    rw [List.getElem?_eq_getElem h2]
    rfl
  · rename_i h
    rw [List.getElem?_eq_none (by rw [Array.length_toList]; exact Nat.le_of_not_lt h)]
    rfl
theorem bt_bl0 (a : ByteArray) : bt a 0 = (((bl a)[0]?).map (fun b => (b.toNat : Int))).getD 0 := bt_bl a 0
theorem bl_cons {a : ByteArray} (h : 0 < a.size) : ∃ b x, bl a = b :: x ∧ bt a 0 = b.toNat := by
  rw [bt_bl0]
  rw [← bl_len] at h
  cases hb : bl a with
  | nil => rw [hb] at h; simp at h
  | cons b x => exact ⟨b, x, rfl, rfl⟩
/-- Below two first bytes texts stand as these do. -/
theorem ls_first {a b : ByteArray} (ha : 0 < a.size) (hb : 0 < b.size) (h : bt a 0 < bt b 0) (p s s' : List UInt8) : LS (p ++ (bl a ++ s)) (p ++ (bl b ++ s')) := by
  obtain ⟨x, xs, hx, ex⟩ := bl_cons ha
  obtain ⟨y, ys, hy, ey⟩ := bl_cons hb
  rw [ls_app, hx, hy]
  exact ls_cons.2 (.inl (by omega))

/-! ### right nodes -/
theorem nodeB_iff {l : ByteArray} {r : List Row} {ks : List Trie} {left : Int} : nodeB (.mk l r ks) left = true ↔ (0 < l.size ∧ (l.size : Int) ≤ left) ∧ rowsB r = true ∧ ¬ (r = [] ∧ ks.length < 2) ∧ kidsB ks (left - l.size) (-1) = true := by
  simp only [nodeB, Bool.and_eq_true, decide_eq_true_eq, Bool.not_eq_true', Bool.and_eq_false_iff, decide_eq_false_iff_not]
  have : (¬ l = ⟨#[]⟩) ↔ 0 < l.size := ⟨ne_pos, fun h e => by subst e; exact absurd h (by decide)⟩
  rw [this]
  constructor
  · rintro ⟨⟨⟨h1, h2⟩, h3⟩, h4⟩
    exact ⟨h1, h2, fun h => h3.elim (fun k => k h.1) (fun k => k h.2), h4⟩
  · rintro ⟨h1, h2, h3, h4⟩
    refine ⟨⟨⟨h1, h2⟩, ?_⟩, h4⟩
    by_cases hr : r = []
    · exact .inr (fun h => h3 ⟨hr, h⟩)
    · exact .inl hr
theorem kidsB_iff : ∀ {ks : List Trie} {left first : Int}, kidsB ks left first = true ↔ (∀ t, t ∈ ks → nodeB t left = true ∧ first < bt t.label 0) ∧ ks.Pairwise (fun a b => bt a.label 0 < bt b.label 0)
  | [], left, first => by simp [kidsB]
  | t :: r, left, first => by
    simp only [kidsB, Bool.and_eq_true, decide_eq_true_eq, List.pairwise_cons, List.mem_cons]
    rw [kidsB_iff]
    constructor
    · rintro ⟨⟨h1, h2⟩, h3, h4⟩
      refine ⟨fun x hx => ?_, fun x hx => (h3 x hx).2, h4⟩
      rcases hx with rfl | hx
      · exact ⟨h1, h2⟩
      · have := h3 x hx
        exact ⟨this.1, by omega⟩
    · rintro ⟨h1, h2, h3⟩
      have := h1 t (.inl rfl)
      exact ⟨this, fun x hx => ⟨(h1 x (.inr hx)).1, h2 x hx⟩, h3⟩
theorem rightB_iff {l : ByteArray} {r : List Row} {ks : List Trie} : rightB (.mk l r ks) = true ↔ l = ⟨#[]⟩ ∧ r = [] ∧ kidsB ks 24 (-1) = true := by
  simp only [rightB, Trie.label, Trie.rows, Trie.kids, Bool.and_eq_true, and_assoc]
  exact and_congr decide_eq_true_iff (and_congr decide_eq_true_iff Iff.rfl)
theorem nodeB_lab {t : Trie} {left : Int} (h : nodeB t left = true) : 0 < t.label.size ∧ (t.label.size : Int) ≤ left := by
  obtain ⟨l, r, ks⟩ := t
  exact (nodeB_iff.1 h).1

/-! ### entries -/
abbrev ltE (a b : Ent) : Prop := LS (bl a.path) (bl b.path)
theorem mem_entsL {e : Ent} {p : ByteArray} : ∀ {ks : List Trie}, e ∈ entsL ks p ↔ ∃ k, k ∈ ks ∧ e ∈ k.ents p
  | [] => by simp [entsL]
  | t :: r => by simp only [entsL, List.mem_append, mem_entsL (ks := r), List.mem_cons]; constructor
                 · rintro (h | ⟨k, h1, h2⟩)
                   · exact ⟨t, .inl rfl, h⟩
                   · exact ⟨k, .inr h1, h2⟩
                 · rintro ⟨k, rfl | h1, h2⟩
                   · exact .inl h2
                   · exact .inr ⟨k, h1, h2⟩
theorem mem_ents {e : Ent} {p l : ByteArray} {r : List Row} {ks : List Trie} : e ∈ (Trie.mk l r ks).ents p ↔ (r ≠ [] ∧ e = ⟨p ++ l, r⟩) ∨ ∃ k, k ∈ ks ∧ e ∈ k.ents (p ++ l) := by
  rw [Trie.ents, List.mem_append, mem_entsL]
  by_cases h : r = [] <;> simp [h]
theorem ents_path (t : Trie) : ∀ (p : ByteArray) (e : Ent), e ∈ t.ents p → ∃ s, bl e.path = bl p ++ (bl t.label ++ s) := by
  induction t using Trie.ind with
  | h l r ks ih =>
    intro p e he
    rcases mem_ents.1 he with ⟨_, rfl⟩ | ⟨k, hk, he⟩
    · exact ⟨[], by simp [bl_app, Trie.label]⟩
    · obtain ⟨s, hs⟩ := ih k hk _ _ he
      exact ⟨bl k.label ++ s, by rw [hs, bl_app]; simp [Trie.label]⟩
theorem ents_ne (t : Trie) : ∀ (p : ByteArray) (left : Int), nodeB t left = true → ∃ e, e ∈ t.ents p := by
  induction t using Trie.ind with
  | h l r ks ih =>
    intro p left h
    obtain ⟨h1, h2, h3, h4⟩ := nodeB_iff.1 h
    by_cases hr : r = []
    · cases ks with
      | nil => exact absurd ⟨hr, by simp⟩ h3
      | cons k ks =>
        obtain ⟨e, he⟩ := ih k (by simp) (p ++ l) _ ((kidsB_iff.1 h4).1 k (by simp)).1
        exact ⟨e, mem_ents.2 (.inr ⟨k, by simp, he⟩)⟩
    · exact ⟨_, mem_ents.2 (.inl ⟨hr, rfl⟩)⟩
theorem app_size (a b : ByteArray) : (a ++ b).size = a.size + b.size := ByteArray.size_append
theorem ents_good (t : Trie) : ∀ (p : ByteArray) (left : Int), nodeB t left = true → ∀ e, e ∈ t.ents p → (e.path.size : Int) ≤ p.size + left ∧ p.size < e.path.size ∧ rowsB e.rows = true ∧ e.rows ≠ [] := by
  induction t using Trie.ind with
  | h l r ks ih =>
    intro p left h e he
    obtain ⟨h1, h2, h3, h4⟩ := nodeB_iff.1 h
    rcases mem_ents.1 he with ⟨hr, rfl⟩ | ⟨k, hk, he⟩
    · refine ⟨?_, ?_, h2, hr⟩ <;> simp only [app_size] <;> omega
    · have := ih k hk _ _ ((kidsB_iff.1 h4).1 k hk).1 e he
      rw [app_size] at this
      exact ⟨by omega, by omega, this.2.2⟩
theorem lt_kids {k k' : Trie} {P : ByteArray} {e e' : Ent} (hk : 0 < k.label.size) (hk' : 0 < k'.label.size) (hb : bt k.label 0 < bt k'.label 0) (he : e ∈ k.ents P) (he' : e' ∈ k'.ents P) : ltE e e' := by
  obtain ⟨s, hs⟩ := ents_path _ _ _ he
  obtain ⟨s', hs'⟩ := ents_path _ _ _ he'
  show LS _ _
  rw [hs, hs']
  exact ls_first hk hk' hb _ _ _
theorem entsL_sorted {P : ByteArray} : ∀ {ks : List Trie}, (∀ k, k ∈ ks → 0 < k.label.size ∧ (k.ents P).Pairwise ltE) → ks.Pairwise (fun a b => bt a.label 0 < bt b.label 0) → (entsL ks P).Pairwise ltE
  | [], _, _ => by simp [entsL]
  | t :: r, h1, h2 => by
    rw [entsL, List.pairwise_append]
    rw [List.pairwise_cons] at h2
    refine ⟨(h1 t (by simp)).2, entsL_sorted (fun k hk => h1 k (by simp [hk])) h2.2, fun a ha b hb => ?_⟩
    obtain ⟨k, hk, hb⟩ := mem_entsL.1 hb
    exact lt_kids (h1 t (by simp)).1 (h1 k (by simp [hk])).1 (h2.1 k hk) ha hb
theorem ents_sorted (t : Trie) : ∀ (p : ByteArray) (left : Int), nodeB t left = true → (t.ents p).Pairwise ltE := by
  induction t using Trie.ind with
  | h l r ks ih =>
    intro p left h
    obtain ⟨h1, h2, h3, h4⟩ := nodeB_iff.1 h
    obtain ⟨h5, h6⟩ := kidsB_iff.1 h4
    rw [Trie.ents, List.pairwise_append]
    refine ⟨?_, entsL_sorted (fun k hk => ⟨(nodeB_lab (h5 k hk).1).1, ih k hk _ _ (h5 k hk).1⟩) h6, fun a ha b hb => ?_⟩
    · split <;> simp
    · split at ha
      · cases ha
      · obtain rfl : a = _ := by simpa using ha
        obtain ⟨k, hk, hb⟩ := mem_entsL.1 hb
        obtain ⟨s, hs⟩ := ents_path _ _ _ hb
        show LS _ _
        rw [hs]
        refine ls_pre (fun h0 => ?_)
        have := (nodeB_lab (h5 k hk).1).1
        rw [← bl_len] at this
        simp [(List.append_eq_nil_iff.1 h0).1] at this
theorem kids_sorted {ks : List Trie} {left first : Int} {P : ByteArray} (h : kidsB ks left first = true) : (entsL ks P).Pairwise ltE :=
  entsL_sorted (fun k hk => ⟨(nodeB_lab ((kidsB_iff.1 h).1 k hk).1).1, ents_sorted k P left ((kidsB_iff.1 h).1 k hk).1⟩) (kidsB_iff.1 h).2

/-! ### the tree made of entries -/
theorem takeWhile_app {α : Type} {p : α → Bool} : ∀ {a b : List α}, (∀ x, x ∈ a → p x = true) → (∀ x, b.head? = some x → p x = false) → (a ++ b).takeWhile p = a ∧ (a ++ b).dropWhile p = b
  | [], [], _, _ => by simp
  | [], x :: b, _, h => by have := h x rfl; simp [List.takeWhile, List.dropWhile, this]
  | x :: a, b, h1, h2 => by
    have hx := h1 x (by simp)
    have := takeWhile_app (p := p) (a := a) (b := b) (fun y hy => h1 y (by simp [hy])) h2
    simp [List.takeWhile, List.dropWhile, hx, this]
theorem bt_at {P : ByteArray} {k : ByteArray} {e : ByteArray} {s : List UInt8} (hk : 0 < k.size) (h : bl e = bl P ++ (bl k ++ s)) : bt e (P.size : Int) = bt k 0 := by
  obtain ⟨x, xs, hx, ex⟩ := bl_cons hk
  rw [bt_bl, ex, h, hx, List.getElem?_append_right (by rw [bl_len]; exact Nat.le_refl _), bl_len, Nat.sub_self]
  rfl
theorem bt_kid {k : Trie} {P : ByteArray} {e : Ent} (hk : 0 < k.label.size) (he : e ∈ k.ents P) : bt e.path (P.size : Int) = bt k.label 0 := by
  obtain ⟨s, hs⟩ := ents_path _ _ _ he
  exact bt_at hk hs
theorem runs_kids {P : ByteArray} {left : Int} : ∀ {ks : List Trie} {first : Int} (f : Nat), kidsB ks left first = true → (entsL ks P).length ≤ f → runs P.size f (entsL ks P) = ks.map (fun k => k.ents P)
  | [], first, f, _, _ => by cases f <;> simp [entsL, runs]
  | k :: ks, first, f, h, hf => by
    obtain ⟨h1, h2⟩ := kidsB_iff.1 h
    have hk := (h1 k (by simp)).1
    obtain ⟨e0, he0⟩ := ents_ne k P left hk
    rw [entsL] at hf ⊢
    cases hE : k.ents P with
    | nil => rw [hE] at he0; cases he0
    | cons e r =>
      rw [hE] at hf
      cases f with
      | zero => simp at hf
      | succ f =>
        have hl := (nodeB_lab hk).1
        have hsame : ∀ x, x ∈ k.ents P → bt x.path (P.size : Int) = bt k.label 0 := fun x hx => bt_kid hl hx
        have hw := takeWhile_app (p := sameB P.size e) (a := r) (b := entsL ks P) (fun x hx => decide_eq_true (by rw [hsame x (by rw [hE]; simp [hx]), hsame e (by rw [hE]; simp)])) (fun x hx => by
          obtain ⟨k', hk', hx⟩ := mem_entsL.1 (List.mem_of_mem_head? hx)
          have := (List.pairwise_cons.1 h2).1 k' hk'
          refine decide_eq_false ?_
          rw [hsame e (by rw [hE]; simp), bt_kid (nodeB_lab (h1 k' (by simp [hk'])).1).1 hx]
          omega)
        rw [List.cons_append, runs, hw.1, hw.2, List.map_cons, hE]
        have hks : kidsB ks left (bt k.label 0) = true := by
          simp only [kidsB, Bool.and_eq_true] at h
          exact h.2
        rw [runs_kids f hks (by simp at hf; omega)]
theorem comF_to {e : Ent} {l : List Ent} {m : Nat} : ∀ (f n : Nat), n ≤ m → m ≤ n + f → (∀ k, n ≤ k → k < m → stopAt e l k = false) → (m < n + f → stopAt e l m = true) → comF e l f n = m
  | 0, n, h1, h2, _, _ => by simp only [comF]; omega
  | f + 1, n, h1, h2, h3, h4 => by
    simp only [comF]
    rcases Nat.lt_or_ge n m with h | h
    · rw [h3 n (Nat.le_refl _) h, if_neg (by simp)]
      exact comF_to f (n + 1) h (by omega) (fun k hk => h3 k (by omega)) (fun hk => h4 (by omega))
    · obtain rfl : n = m := by omega
      rw [h4 (by omega), if_pos rfl]
theorem bt_pre {P : ByteArray} {e : ByteArray} {s : List UInt8} {k : Nat} (hk : k < P.size) (h : bl e = bl P ++ s) : bt e (k : Int) = bt P (k : Int) := by
  rw [bt_bl, bt_bl, h, List.getElem?_append_left (by rw [bl_len]; exact hk)]
theorem size_pre {P : ByteArray} {e : ByteArray} {s : List UInt8} (h : bl e = bl P ++ s) : e.size = P.size + s.length := by rw [← bl_len, h, List.length_append, bl_len]
theorem node_facts {l : ByteArray} {r : List Row} {ks : List Trie} {p : ByteArray} {left : Int} {e : Ent} {r' : List Ent} (hl : (p.size : Int) + left ≤ 24) (h : nodeB (.mk l r ks) left = true) (hE : (Trie.mk l r ks).ents p = e :: r') :
    comR e r' p.size = p.size + l.size ∧ e.path.extract p.size (p.size + l.size) = l ∧ (if e.path.size = p.size + l.size then e.rows else []) = r ∧ restOf e r' (p.size + l.size) = entsL ks (p ++ l) ∧ p.size + l.size ≤ e.path.size := by
  obtain ⟨h1, h2, h3, h4⟩ := nodeB_iff.1 h
  obtain ⟨h5, h6⟩ := kidsB_iff.1 h4
  -- all paths begin with the node's
  have hall : ∀ x, x ∈ (Trie.mk l r ks).ents p → ∃ s, bl x.path = bl (p ++ l) ++ s := fun x hx => by
    obtain ⟨s, hs⟩ := ents_path _ _ _ hx
    exact ⟨s, by rw [hs, bl_app]; simp [Trie.label]⟩
  have hsz : (p ++ l).size = p.size + l.size := app_size _ _
  have heM : e ∈ (Trie.mk l r ks).ents p := by rw [hE]; simp
  obtain ⟨s, hs⟩ := hall e heM
  have hes := size_pre hs
  -- where the common part ends
  have hn : comR e r' p.size = p.size + l.size := by
    refine comF_to _ _ (by omega) (by omega) (fun k hk1 hk2 => ?_) (fun hk => ?_)
    · simp only [stopAt, Bool.or_eq_false_iff, decide_eq_false_iff_not]
      refine ⟨by omega, List.any_eq_false.2 (fun x hx => ?_)⟩
      rw [← hE] at hx
      obtain ⟨s', hs'⟩ := hall x hx
      have hxs := size_pre hs'
      simp only [badAt, Bool.or_eq_true, decide_eq_true_eq, not_or]
      refine ⟨by omega, fun hne => hne ?_⟩
      rw [bt_pre (by omega) hs, bt_pre (by omega) hs']
    · simp only [stopAt, Bool.or_eq_true, decide_eq_true_eq]
      by_cases hr : r = []
      · right
        -- two kids: two first bytes
        obtain ⟨k0, k1, kr, hks⟩ : ∃ k0 k1 kr, ks = k0 :: k1 :: kr := by
          rcases ks with _ | ⟨k0, _ | ⟨k1, kr⟩⟩
          · exact absurd ⟨hr, by simp⟩ h3
          · exact absurd ⟨hr, by simp⟩ h3
          · exact ⟨k0, k1, kr, rfl⟩
        have hk1 := h5 k1 (by rw [hks]; simp)
        have hk0 := h5 k0 (by rw [hks]; simp)
        obtain ⟨x0, hx0⟩ := ents_ne k0 (p ++ l) _ hk0.1
        obtain ⟨x1, hx1⟩ := ents_ne k1 (p ++ l) _ hk1.1
        have hb0 := bt_kid (nodeB_lab hk0.1).1 hx0
        have hb1 := bt_kid (nodeB_lab hk1.1).1 hx1
        have hlt : bt k0.label 0 < bt k1.label 0 := by
          rw [hks] at h6
          exact (List.pairwise_cons.1 h6).1 k1 (by simp)
        rw [hsz] at hb0 hb1
        have m0 : x0 ∈ e :: r' := by rw [← hE]; exact mem_ents.2 (.inr ⟨k0, by rw [hks]; simp, hx0⟩)
        have m1 : x1 ∈ e :: r' := by rw [← hE]; exact mem_ents.2 (.inr ⟨k1, by rw [hks]; simp, hx1⟩)
        rw [List.any_eq_true]
        by_cases hc : bt e.path ((p.size + l.size : Nat) : Int) = bt k0.label 0
        · refine ⟨x1, m1, ?_⟩
          simp only [badAt, Bool.or_eq_true, decide_eq_true_eq]
          right
          omega
        · refine ⟨x0, m0, ?_⟩
          simp only [badAt, Bool.or_eq_true, decide_eq_true_eq]
          right
          omega
      · left
        left
        have : (Trie.mk l r ks).ents p = ⟨p ++ l, r⟩ :: entsL ks (p ++ l) := by rw [Trie.ents, if_neg hr]; rfl
        rw [hE] at this
        injection this with h7 h8
        rw [h7]
        show (p ++ l).size ≤ _
        omega
  have hlab : e.path.extract p.size (p.size + l.size) = l := bl_inj.1 (by
    rw [bl_ext, hs, bl_app, ← bl_len p, ← bl_len l, ← List.length_append, List.take_left, List.drop_left])
  have hrest : (if e.path.size = p.size + l.size then e.rows else []) = r ∧ restOf e r' (p.size + l.size) = entsL ks (p ++ l) := by
    by_cases hr : r = []
    · have : (Trie.mk l r ks).ents p = entsL ks (p ++ l) := by rw [Trie.ents, if_pos hr]; rfl
      have hne : e.path.size ≠ p.size + l.size := by
        rw [this] at heM
        obtain ⟨k, hk, hx⟩ := mem_entsL.1 heM
        have := ents_good k _ _ (h5 k hk).1 e hx
        omega
      rw [if_neg hne, restOf, if_neg hne, ← hE, this]
      exact ⟨hr.symm, rfl⟩
    · have : (Trie.mk l r ks).ents p = ⟨p ++ l, r⟩ :: entsL ks (p ++ l) := by rw [Trie.ents, if_neg hr]; rfl
      rw [hE] at this
      injection this with h7 h8
      rw [h7, h8]
      simp only [restOf]
      rw [hsz, if_pos rfl, if_pos rfl]
      exact ⟨rfl, rfl⟩
  exact ⟨hn, hlab, hrest.1, hrest.2, by omega⟩
theorem nodeF_ents : ∀ (f : Nat) (t : Trie) (p : ByteArray) (left : Int), left ≤ f → (p.size : Int) + left ≤ 24 → nodeB t left = true → nodeF f (t.ents p) p.size = t
  | 0, t, p, left, hf, _, h => by have := nodeB_lab h; omega
  | f + 1, .mk l r ks, p, left, hf, hl, h => by
    obtain ⟨h1, h2, h3, h4⟩ := nodeB_iff.1 h
    obtain ⟨h5, h6⟩ := kidsB_iff.1 h4
    obtain ⟨e0, he0⟩ := ents_ne _ p left h
    have hsz : (p ++ l).size = p.size + l.size := app_size _ _
    cases hE : (Trie.mk l r ks).ents p with
    | nil => rw [hE] at he0; cases he0
    | cons e r' =>
      obtain ⟨f1, f2, f3, f4, _⟩ := node_facts hl h hE
      rw [nodeF, f1, f2, f3, f4, ← hsz, runs_kids _ h4 (Nat.le_refl _)]
      congr 1
      rw [List.map_map]
      conv => rhs; rw [← List.map_id ks]
      refine List.map_congr_left (fun k hk => ?_)
      exact nodeF_ents f k (p ++ l) _ (by omega) (by rw [hsz]; omega) (h5 k hk).1
theorem belowF_ents {f : Nat} {ks : List Trie} {p : ByteArray} {left first : Int} (hf : left ≤ f) (hl : (p.size : Int) + left ≤ 24) (h : kidsB ks left first = true) : belowF f (entsL ks p) p.size = ks := by
  rw [belowF, runs_kids _ h (Nat.le_refl _), List.map_map]
  conv => rhs; rw [← List.map_id ks]
  exact List.map_congr_left (fun k hk => nodeF_ents f k p _ hf hl ((kidsB_iff.1 h).1 k hk).1)
theorem ofR_ents {t : Trie} (h : rightB t = true) : ofR (t.ents ⟨#[]⟩) = t := by
  obtain ⟨l, r, ks⟩ := t
  obtain ⟨rfl, rfl, h3⟩ := rightB_iff.1 h
  rw [ofR, Trie.ents, if_pos rfl, List.nil_append, app_nil]
  congr 1
  exact belowF_ents (p := ⟨#[]⟩) (by decide) (by decide) h3
end Go.Proofs.YtjnkbmodcddbkaaDoor
