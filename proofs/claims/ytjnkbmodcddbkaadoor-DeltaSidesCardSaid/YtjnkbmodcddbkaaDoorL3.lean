/- The plain law of trees, part 3: what comes of three trees. -/
import Derived.Test.YtjnkbmodcddbkaaDoorL2
set_option linter.unusedVariables false
set_option linter.unusedSimpArgs false
namespace Go.Proofs.YtjnkbmodcddbkaaDoor
open Go Go.RowKit

/-! ### sides -/
def mpF (s : ByteArray) : List Ent → ByteArray
  | [] => s
  | e :: _ => if s = ⟨#[]⟩ ∨ LS (bl e.path) (bl s) then e.path else s
def hdF (q : ByteArray) : List Ent → List Row
  | [] => []
  | e :: _ => if e.path = q then e.rows else []
def tlF (q : ByteArray) : List Ent → List Ent
  | [] => []
  | e :: r => if e.path = q then r else e :: r
def minF (A B C : List Ent) : ByteArray := mpF (mpF (mpF ⟨#[]⟩ A) B) C
structure Side where
  path : ByteArray
  a : List Row
  b : List Row
  c : List Row
def sidesF : Nat → List Ent → List Ent → List Ent → List Side
  | 0, _, _, _ => []
  | f + 1, A, B, C => if minF A B C = ⟨#[]⟩ then [] else
    ⟨minF A B C, hdF (minF A B C) A, hdF (minF A B C) B, hdF (minF A B C) C⟩ :: sidesF f (tlF (minF A B C) A) (tlF (minF A B C) B) (tlF (minF A B C) C)
/-- Entries that a right tree may have: rising, of paths. -/
def goodL (l : List Ent) : Prop := l.Pairwise ltE ∧ ∀ e, e ∈ l → isPath e.path = true ∧ rowsB e.rows = true ∧ e.rows ≠ []
theorem goodL_right {t : Trie} (h : rightB t = true) : goodL (entriesR t) := by
  unfold entriesR
  rw [if_pos h]
  exact ⟨right_sorted h, right_good h⟩
theorem path_ne {p : ByteArray} (h : isPath p = true) : p ≠ ⟨#[]⟩ := (of_decide_eq_true h).1
theorem mp_spec {s : ByteArray} {A : List Ent} (h : goodL A) : (mpF s A = s ∨ ∃ x, x ∈ A ∧ x.path = mpF s A) ∧ (s ≠ ⟨#[]⟩ → mpF s A ≠ ⟨#[]⟩ ∧ (mpF s A = s ∨ LS (bl (mpF s A)) (bl s))) ∧ (∀ x, x ∈ A → mpF s A ≠ ⟨#[]⟩ ∧ (mpF s A = x.path ∨ LS (bl (mpF s A)) (bl x.path))) := by
  cases A with
  | nil => exact ⟨.inl rfl, fun h => ⟨h, .inl rfl⟩, fun x hx => by cases hx⟩
  | cons e r =>
    obtain ⟨h1, h2⟩ := h
    rw [List.pairwise_cons] at h1
    have he := path_ne (h2 e (by simp)).1
    simp only [mpF]
    split
    · rename_i hc
      refine ⟨.inr ⟨e, by simp, rfl⟩, fun hs => ⟨he, .inr (hc.resolve_left hs)⟩, fun x hx => ⟨he, ?_⟩⟩
      rcases List.mem_cons.1 hx with rfl | hx
      · exact .inl rfl
      · exact .inr (h1.1 x hx)
    · rename_i hc
      obtain ⟨hc1, hc2⟩ := not_or.1 hc
      refine ⟨.inl rfl, fun hs => ⟨hs, .inl rfl⟩, fun x hx => ⟨hc1, ?_⟩⟩
      have hse : s = e.path ∨ LS (bl s) (bl e.path) := by
        rcases ls_tri (bl s) (bl e.path) with h | h | h
        · exact .inr h
        · exact .inl (bl_inj.1 h)
        · exact absurd h hc2
      rcases List.mem_cons.1 hx with rfl | hx
      · exact hse
      · rcases hse with h | h
        · exact .inr (h ▸ h1.1 x hx)
        · exact .inr (ls_trans h (h1.1 x hx))
theorem min_spec {A B C : List Ent} (hA : goodL A) (hB : goodL B) (hC : goodL C) : (minF A B C = ⟨#[]⟩ → A = [] ∧ B = [] ∧ C = []) ∧ (minF A B C ≠ ⟨#[]⟩ → ∃ x, (x ∈ A ∨ x ∈ B ∨ x ∈ C) ∧ x.path = minF A B C) ∧
    (∀ x, (x ∈ A ∨ x ∈ B ∨ x ∈ C) → minF A B C = x.path ∨ LS (bl (minF A B C)) (bl x.path)) := by
  obtain ⟨a1, a2, a3⟩ := mp_spec (s := ⟨#[]⟩) hA
  obtain ⟨b1, b2, b3⟩ := mp_spec (s := mpF ⟨#[]⟩ A) hB
  obtain ⟨c1, c2, c3⟩ := mp_spec (s := mpF (mpF ⟨#[]⟩ A) B) hC
  have up : ∀ {r s x : ByteArray}, (r = s ∨ LS (bl r) (bl s)) → (s = x ∨ LS (bl s) (bl x)) → (r = x ∨ LS (bl r) (bl x)) := fun h k => by
    rcases h with rfl | h
    · exact k
    · rcases k with rfl | k
      · exact .inr h
      · exact .inr (ls_trans h k)
  unfold minF
  refine ⟨fun h => ⟨?_, ?_, ?_⟩, fun h => ?_, fun x hx => ?_⟩
  · cases A with
    | nil => rfl
    | cons e r => exact absurd h (c2 (b2 (a3 e (by simp)).1).1).1
  · cases B with
    | nil => rfl
    | cons e r => exact absurd h (c2 (b3 e (by simp)).1).1
  · cases C with
    | nil => rfl
    | cons e r => exact absurd h (c3 e (by simp)).1
  · rcases c1 with h1 | ⟨x, h1, h2⟩
    · rw [h1] at h ⊢
      rcases b1 with h1 | ⟨x, h1, h2⟩
      · rw [h1] at h ⊢
        rcases a1 with h1 | ⟨x, h1, h2⟩
        · exact absurd h1 h
        · exact ⟨x, .inl h1, h2⟩
      · exact ⟨x, .inr (.inl h1), h2⟩
    · exact ⟨x, .inr (.inr h1), h2⟩
  · rcases hx with hx | hx | hx
    · have ha := a3 x hx
      have hb := b2 ha.1
      exact up (c2 hb.1).2 (up hb.2 ha.2)
    · have hb := b3 x hx
      exact up (c2 hb.1).2 hb.2
    · exact (c3 x hx).2
theorem ls_ne {a b : ByteArray} (h : LS (bl a) (bl b)) : b ≠ a := fun e => by subst e; exact ls_irr h
theorem getL_none {l : List Ent} {q : ByteArray} (h : ∀ x, x ∈ l → x.path ≠ q) : getL l q = [] := by
  induction l with
  | nil => rfl
  | cons e r ih => rw [getL, if_neg (h e (by simp)), ih (fun x hx => h x (by simp [hx]))]
theorem tl_spec {A : List Ent} {q : ByteArray} (h : goodL A) (hq : ∀ x, x ∈ A → q = x.path ∨ LS (bl q) (bl x.path)) :
    goodL (tlF q A) ∧ (∀ x, x ∈ tlF q A ↔ x ∈ A ∧ LS (bl q) (bl x.path)) ∧ hdF q A = getL A q ∧ (∀ p, LS (bl q) (bl p) → getL (tlF q A) p = getL A p) ∧ (tlF q A).length ≤ A.length ∧ ((∃ x, x ∈ A ∧ x.path = q) → (tlF q A).length < A.length) := by
  cases A with
  | nil => exact ⟨h, fun x => by simp [tlF], rfl, fun p _ => rfl, Nat.le_refl _, fun ⟨x, hx, _⟩ => by cases hx⟩
  | cons e r =>
    obtain ⟨h1, h2⟩ := h
    have h1' := List.pairwise_cons.1 h1
    simp only [tlF, hdF]
    by_cases hc : e.path = q
    · rw [if_pos hc, if_pos hc]
      refine ⟨⟨h1'.2, fun x hx => h2 x (by simp [hx])⟩, fun x => ⟨fun hx => ⟨by simp [hx], hc ▸ h1'.1 x hx⟩, fun ⟨hx, hl⟩ => ?_⟩, by rw [getL, if_pos hc], fun p hp => ?_, by simp, fun _ => by simp⟩
      · rcases List.mem_cons.1 hx with rfl | hx
        · rw [hc] at hl; exact absurd hl ls_irr
        · exact hx
      · rw [getL, if_neg (fun h0 => ls_ne hp (by rw [← h0, hc]))]
    · rw [if_neg hc, if_neg hc]
      have hlt : LS (bl q) (bl e.path) := (hq e (by simp)).resolve_left (fun h => hc h.symm)
      have hall : ∀ x, x ∈ e :: r → LS (bl q) (bl x.path) := fun x hx => by
        rcases List.mem_cons.1 hx with rfl | hx
        · exact hlt
        · exact ls_trans hlt (h1'.1 x hx)
      refine ⟨⟨h1, h2⟩, fun x => ⟨fun hx => ⟨hx, hall x hx⟩, fun hx => hx.1⟩, (getL_none (fun x hx => ls_ne (hall x hx))).symm, fun p _ => rfl, Nat.le_refl _, fun ⟨x, hx, he⟩ => ?_⟩
      exact absurd he (ls_ne (hall x hx))
theorem sides_spec : ∀ (f : Nat) (A B C : List Ent), goodL A → goodL B → goodL C → A.length + B.length + C.length < f →
    (sidesF f A B C).Pairwise (fun s t => LS (bl s.path) (bl t.path)) ∧ (∀ s, s ∈ sidesF f A B C → s.a = getL A s.path ∧ s.b = getL B s.path ∧ s.c = getL C s.path) ∧
    (∀ q, (∃ s, s ∈ sidesF f A B C ∧ s.path = q) ↔ ∃ x, (x ∈ A ∨ x ∈ B ∨ x ∈ C) ∧ x.path = q)
  | 0, A, B, C, _, _, _, h => absurd h (by omega)
  | f + 1, A, B, C, hA, hB, hC, h => by
    obtain ⟨m1, m2, m3⟩ := min_spec hA hB hC
    rw [sidesF]
    by_cases h0 : minF A B C = ⟨#[]⟩
    · obtain ⟨rfl, rfl, rfl⟩ := m1 h0
      rw [if_pos h0]
      exact ⟨by simp, fun s hs => (by cases hs), fun q => (by simp)⟩
    · rw [if_neg h0]
      obtain ⟨x0, hx0, hq0⟩ := m2 h0
      generalize minF A B C = q at *
      obtain ⟨a1, a2, a3, a4, a5, a6⟩ := tl_spec hA (fun x hx => m3 x (.inl hx))
      obtain ⟨b1, b2, b3, b4, b5, b6⟩ := tl_spec hB (fun x hx => m3 x (.inr (.inl hx)))
      obtain ⟨c1, c2, c3, c4, c5, c6⟩ := tl_spec hC (fun x hx => m3 x (.inr (.inr hx)))
      have hlen : (tlF q A).length + (tlF q B).length + (tlF q C).length < f := by
        rcases hx0 with hx | hx | hx
        · have := a6 ⟨x0, hx, hq0⟩; omega
        · have := b6 ⟨x0, hx, hq0⟩; omega
        · have := c6 ⟨x0, hx, hq0⟩; omega
      obtain ⟨i1, i2, i3⟩ := sides_spec f _ _ _ a1 b1 c1 hlen
      have hgt : ∀ s, s ∈ sidesF f (tlF q A) (tlF q B) (tlF q C) → LS (bl q) (bl s.path) := fun s hs => by
        obtain ⟨x, hx, e⟩ := (i3 s.path).1 ⟨s, hs, rfl⟩
        rw [← e]
        rcases hx with hx | hx | hx
        · exact ((a2 x).1 hx).2
        · exact ((b2 x).1 hx).2
        · exact ((c2 x).1 hx).2
      refine ⟨List.pairwise_cons.2 ⟨hgt, i1⟩, fun s hs => ?_, fun p => ⟨?_, ?_⟩⟩
      · rcases List.mem_cons.1 hs with rfl | hs
        · exact ⟨a3, b3, c3⟩
        · obtain ⟨j1, j2, j3⟩ := i2 s hs
          have := hgt s hs
          exact ⟨by rw [j1, a4 _ this], by rw [j2, b4 _ this], by rw [j3, c4 _ this]⟩
      · rintro ⟨s, hs, rfl⟩
        rcases List.mem_cons.1 hs with rfl | hs
        · exact ⟨x0, hx0, hq0⟩
        · obtain ⟨x, hx, e⟩ := (i3 s.path).1 ⟨s, hs, rfl⟩
          refine ⟨x, ?_, e⟩
          rcases hx with hx | hx | hx
          · exact .inl ((a2 x).1 hx).1
          · exact .inr (.inl ((b2 x).1 hx).1)
          · exact .inr (.inr ((c2 x).1 hx).1)
      · rintro ⟨x, hx, rfl⟩
        rcases m3 x hx with e | e
        · exact ⟨_, List.mem_cons_self, e⟩
        · obtain ⟨s, hs, hp⟩ := (i3 x.path).2 ⟨x, by
            rcases hx with hx | hx | hx
            · exact .inl ((a2 x).2 ⟨hx, e⟩)
            · exact .inr (.inl ((b2 x).2 ⟨hx, e⟩))
            · exact .inr (.inr ((c2 x).2 ⟨hx, e⟩)), rfl⟩
          exact ⟨s, List.mem_cons_of_mem _ hs, hp⟩

/-! ### the reference's paths -/
abbrev ltP (a b : ByteArray) : Prop := LS (bl a) (bl b)
theorem geS_iff {a b : ByteArray} : geS a b = true ↔ ¬ LS (bl a) (bl b) := by unfold geS LS; simp
theorem insGo_all {p : ByteArray} : ∀ {l : List ByteArray}, (∀ x, x ∈ l → LS (bl p) (bl x)) → insGo p l true = l
  | [], _ => rfl
  | x :: r, h => by
    have hx := h x (by simp)
    rw [insGo, if_neg (ls_ne hx)]
    simp only [Bool.not_true, Bool.false_and, Bool.true_or, List.nil_append, List.singleton_append]
    rw [if_neg (by simp), List.nil_append, insGo_all (fun y hy => h y (by simp [hy]))]
theorem insGo_spec {p : ByteArray} : ∀ {l : List ByteArray}, l.Pairwise ltP → (insGo p l false).Pairwise ltP ∧ ∀ q, q ∈ insGo p l false ↔ q = p ∨ q ∈ l
  | [], _ => by simp [insGo]
  | x :: r, h => by
    have h' := List.pairwise_cons.1 h
    rw [insGo]
    rcases ls_tri (bl x) (bl p) with hc | hc | hc
    · have hg : geS x p = false := by
        cases hb : geS x p with
        | false => rfl
        | true => exact absurd hc (geS_iff.1 hb)
      rw [hg, if_neg (ls_ne hc).symm]
      simp only [Bool.not_false, Bool.and_false, Bool.or_false, List.nil_append, List.singleton_append]
      rw [if_neg (by simp), List.nil_append]
      obtain ⟨i1, i2⟩ := insGo_spec (p := p) h'.2
      refine ⟨List.pairwise_cons.2 ⟨fun y hy => ?_, i1⟩, fun q => ?_⟩
      · rcases (i2 y).1 hy with rfl | hy
        · exact hc
        · exact h'.1 y hy
      · rw [List.mem_cons, i2, List.mem_cons]
        constructor
        · rintro (h | h | h)
          · exact .inr (.inl h)
          · exact .inl h
          · exact .inr (.inr h)
        · rintro (h | h | h)
          · exact .inr (.inl h)
          · exact .inl h
          · exact .inr (.inr h)
    · obtain rfl := bl_inj.1 hc
      have hg : geS x x = true := geS_iff.2 ls_irr
      rw [hg, if_pos rfl]
      simp only [Bool.not_false, Bool.and_true, Bool.false_or, if_true, List.nil_append, List.singleton_append]
      rw [insGo_all h'.1]
      exact ⟨h, fun q => by simp⟩
    · have hg : geS x p = true := geS_iff.2 (ls_asym hc)
      rw [hg, if_neg (ls_ne hc)]
      simp only [Bool.not_false, Bool.and_true, Bool.false_or, if_true, List.singleton_append]
      rw [insGo_all (fun y hy => ls_trans hc (h'.1 y hy))]
      refine ⟨List.pairwise_cons.2 ⟨fun y hy => ?_, h⟩, fun q => by simp⟩
      rcases List.mem_cons.1 hy with rfl | hy
      · exact hc
      · exact ls_trans hc (h'.1 y hy)
theorem pathsF_spec : ∀ (es : List Ent) {out : List ByteArray}, out.Pairwise ltP → (pathsF out es).Pairwise ltP ∧ ∀ q, q ∈ pathsF out es ↔ q ∈ out ∨ ∃ e, e ∈ es ∧ e.path = q
  | [], out, h => by simpa [pathsF] using h
  | e :: r, out, h => by
    rw [pathsF]
    obtain ⟨i1, i2⟩ := insGo_spec (p := e.path) h
    obtain ⟨j1, j2⟩ := pathsF_spec r i1
    refine ⟨j1, fun q => ?_⟩
    rw [j2, i2]
    constructor
    · rintro ((h | h) | ⟨x, h1, h2⟩)
      · exact .inr ⟨e, by simp, h.symm⟩
      · exact .inl h
      · exact .inr ⟨x, by simp [h1], h2⟩
    · rintro (h | ⟨x, h1, h2⟩)
      · exact .inl (.inr h)
      · rcases List.mem_cons.1 h1 with rfl | h1
        · exact .inl (.inl h2.symm)
        · exact .inr ⟨x, h1, h2⟩
theorem sorted_eq : ∀ {l m : List ByteArray}, l.Pairwise ltP → m.Pairwise ltP → (∀ q, q ∈ l ↔ q ∈ m) → l = m
  | [], [], _, _, _ => rfl
  | [], b :: m, _, _, h => by have := (h b).2 (by simp); cases this
  | a :: l, [], _, _, h => by have := (h a).1 (by simp); cases this
  | a :: l, b :: m, h1, h2, h => by
    have h1' := List.pairwise_cons.1 h1
    have h2' := List.pairwise_cons.1 h2
    have hab : a = b := by
      rcases List.mem_cons.1 ((h a).1 (by simp)) with e | e
      · exact e
      · rcases List.mem_cons.1 ((h b).2 (by simp)) with e' | e'
        · exact e'.symm
        · exact absurd (h2'.1 a e) (ls_asym (h1'.1 b e'))
    subst hab
    congr 1
    refine sorted_eq h1'.2 h2'.2 (fun q => ⟨fun hq => ?_, fun hq => ?_⟩)
    · rcases List.mem_cons.1 ((h q).1 (by simp [hq])) with e | e
      · exact absurd (h1'.1 q hq) (by rw [e]; exact ls_irr)
      · exact e
    · rcases List.mem_cons.1 ((h q).2 (by simp [hq])) with e | e
      · exact absurd (h2'.1 q hq) (by rw [e]; exact ls_irr)
      · exact e
def allP (A B C : List Ent) : List ByteArray := pathsF (pathsF (pathsF [] A) B) C
theorem sides_all {A B C : List Ent} {f : Nat} (hA : goodL A) (hB : goodL B) (hC : goodL C) (hf : A.length + B.length + C.length < f) : sidesF f A B C = (allP A B C).map (fun q => ⟨q, getL A q, getL B q, getL C q⟩) := by
  obtain ⟨s1, s2, s3⟩ := sides_spec f A B C hA hB hC hf
  have h1 := pathsF_spec A (out := []) List.Pairwise.nil
  have h2 := pathsF_spec B h1.1
  have h3 := pathsF_spec C h2.1
  have e : (sidesF f A B C).map Side.path = allP A B C := by
    refine sorted_eq ?_ h3.1 (fun q => ?_)
    · rw [List.pairwise_map]; exact s1
    · unfold allP
      rw [h3.2, h2.2, h1.2]
      have e1 : q ∈ (sidesF f A B C).map Side.path ↔ ∃ s, s ∈ sidesF f A B C ∧ s.path = q := by simp
      rw [e1, s3 q]
      constructor
      · rintro ⟨x, hx | hx | hx, e⟩
        · exact .inl (.inl (.inr ⟨x, hx, e⟩))
        · exact .inl (.inr ⟨x, hx, e⟩)
        · exact .inr ⟨x, hx, e⟩
      · rintro (((h | ⟨x, hx, e⟩) | ⟨x, hx, e⟩) | ⟨x, hx, e⟩)
        · cases h
        · exact ⟨x, .inl hx, e⟩
        · exact ⟨x, .inr (.inl hx), e⟩
        · exact ⟨x, .inr (.inr hx), e⟩
  rw [← e, List.map_map]
  conv => lhs; rw [← List.map_id (sidesF f A B C)]
  refine List.map_congr_left (fun s hs => ?_)
  obtain ⟨j1, j2, j3⟩ := s2 s hs
  obtain ⟨p, a, b, c⟩ := s
  simp only at j1 j2 j3
  simp [j1, j2, j3]

/-! ### what comes of them -/
def metF (a b c : List Row) : List Row × Bool := if b = c ∨ a = c then (b, true) else if a = b then (c, true) else ([], false)
def pickF (a b c : List Row) : List Row := if b = c then b else if a = b then c else b
def badF (a b c : List Row) : Bool := decide (¬ b = c ∧ ¬ a = b ∧ ¬ a = c)
theorem met_bad (a b c : List Row) : (metF a b c).2 = !badF a b c := by
  unfold metF badF
  by_cases h1 : b = c
  · simp [h1]
  · by_cases h2 : a = c
    · simp [h2]
    · by_cases h3 : a = b
      · simp [h1, h2, h3]
      · simp [h1, h2, h3]
theorem met_pick {a b c : List Row} (h : badF a b c = false) : (metF a b c).1 = pickF a b c := by
  unfold metF pickF
  unfold badF at h
  by_cases h1 : b = c
  · simp [h1]
  · by_cases h2 : a = c
    · by_cases h3 : a = b
      · exact absurd (h3.symm.trans h2) h1
      · simp [h1, h2, h3]
        intro h4
        exact absurd (by rw [h2]; exact h4) h3
    · by_cases h3 : a = b
      · simp [h1, h2, h3]
      · simp [h1, h2, h3] at h
def emptyT : Trie := .mk ⟨#[]⟩ [] []
def putOk (t : Trie) (p : ByteArray) (rows : List Row) : Bool := rightB t && (isPath p && rowsB rows)
def putP (t : Trie) (p : ByteArray) (rows : List Row) : Trie := if putOk t p rows then putR t p rows else emptyT
def mergeGo : List Side → Trie → List ByteArray → Trie × List ByteArray
  | [], t, bad => (t, bad)
  | s :: r, t, bad => if (metF s.a s.b s.c).2 then mergeGo r (putP t s.path (metF s.a s.b s.c).1) bad else mergeGo r t (bad ++ [s.path])
def entsOf (l : List Side) : List Ent := l.flatMap (fun s => if badF s.a s.b s.c = false ∧ pickF s.a s.b s.c ≠ [] then [⟨s.path, pickF s.a s.b s.c⟩] else [])
def badsOf (l : List Side) : List ByteArray := (l.filter (fun s => badF s.a s.b s.c)).map Side.path
theorem mergeGo_spec : ∀ (l d : List Side) (t : Trie) (bad : List ByteArray), (d ++ l).Pairwise (fun s t => LS (bl s.path) (bl t.path)) → (∀ s, s ∈ l → isPath s.path = true ∧ rowsB s.a = true ∧ rowsB s.b = true ∧ rowsB s.c = true) →
    rightB t = true → t.ents ⟨#[]⟩ = entsOf d → rightB (mergeGo l t bad).1 = true ∧ (mergeGo l t bad).1.ents ⟨#[]⟩ = entsOf (d ++ l) ∧ (mergeGo l t bad).2 = bad ++ badsOf l
  | [], d, t, bad, _, _, h1, h2 => by simp [mergeGo, badsOf, h1, h2]
  | s :: r, d, t, bad, hs, hg, h1, h2 => by
    have hs' : (d ++ [s] ++ r).Pairwise (fun s t => LS (bl s.path) (bl t.path)) := by simpa using hs
    rw [mergeGo, met_bad]
    have hgs := hg s (by simp)
    cases hb : badF s.a s.b s.c with
    | true =>
      rw [if_neg (by simp)]
      have := mergeGo_spec r (d ++ [s]) t (bad ++ [s.path]) hs' (fun x hx => hg x (by simp [hx])) h1 (by rw [h2]; simp [entsOf, hb])
      refine ⟨this.1, by rw [this.2.1]; simp, ?_⟩
      rw [this.2.2]
      simp [badsOf, hb]
    | false =>
      rw [if_pos (by simp), met_pick hb]
      have hrow : rowsB (pickF s.a s.b s.c) = true := by
        unfold pickF
        split
        · exact hgs.2.2.1
        · split
          · exact hgs.2.2.2
          · exact hgs.2.2.1
      have hput := put_right h1 hgs.1 hrow
      have hok : putP t s.path (pickF s.a s.b s.c) = putR t s.path (pickF s.a s.b s.c) := by
        unfold putP putOk
        rw [h1, hgs.1, hrow]
        rfl
      have := mergeGo_spec r (d ++ [s]) (putP t s.path (pickF s.a s.b s.c)) bad hs' (fun x hx => hg x (by simp [hx])) (by rw [hok]; exact hput.1) (by
        rw [hok, hput.2, h2]
        have hlt : ∀ e, e ∈ entsOf d → LS (bl e.path) (bl s.path) := fun e he => by
          obtain ⟨x, hx, he⟩ := List.mem_flatMap.1 he
          split at he
          · obtain rfl : e = _ := by simpa using he
            rw [List.pairwise_append] at hs
            exact hs.2.2 x hx s (by simp)
          · cases he
        have h3 := insE_mid (A := entsOf d) (M := []) (B := []) (q := s.path) (rows := pickF s.a s.b s.c) hlt (fun e he => by cases he)
        simp only [List.append_nil] at h3
        rw [h3, insE_nil]
        unfold entsOf
        rw [List.flatMap_append]
        congr 1
        by_cases hp : pickF s.a s.b s.c = []
        · simp [hp]
        · simp [hp, hb])
      refine ⟨this.1, by rw [this.2.1]; simp, ?_⟩
      rw [this.2.2]
      simp [badsOf, hb]
theorem rowsB_nil : rowsB [] = true := rfl
theorem getL_rows {l : List Ent} (h : goodL l) (q : ByteArray) : rowsB (getL l q) = true := by
  replace h := h.2
  induction l with
  | nil => rfl
  | cons e r ih =>
    rw [getL]
    split
    · exact (h e (by simp)).2.1
    · exact ih (fun x hx => h x (by simp [hx]))
/-- What the program tells, and the document. -/
structure Mrg where
  t : Trie
  bad : List ByteArray
  e : Int
def mergeP (a b c : Trie) : Mrg :=
  if !(rightB a && (rightB b && rightB c)) then ⟨emptyT, [], 2⟩
  else if (mergeGo (sidesF ((entriesR a).length + (entriesR b).length + (entriesR c).length + 1) (entriesR a) (entriesR b) (entriesR c)) emptyT []).2 = [] then
    ⟨(mergeGo (sidesF ((entriesR a).length + (entriesR b).length + (entriesR c).length + 1) (entriesR a) (entriesR b) (entriesR c)) emptyT []).1, [], 0⟩
  else ⟨emptyT, (mergeGo (sidesF ((entriesR a).length + (entriesR b).length + (entriesR c).length + 1) (entriesR a) (entriesR b) (entriesR c)) emptyT []).2, 19⟩
def badsR (A B C : List Ent) : List ByteArray := (allP A B C).filter (fun q => badF (getL A q) (getL B q) (getL C q))
def entsM (A B C : List Ent) : List Ent := (allP A B C).flatMap (fun q => if pickF (getL A q) (getL B q) (getL C q) = [] then [] else [⟨q, pickF (getL A q) (getL B q) (getL C q)⟩])
def mergeR (a b c : Trie) : Mrg :=
  if !(rightB a && (rightB b && rightB c)) then ⟨emptyT, [], 2⟩
  else if badsR (entriesR a) (entriesR b) (entriesR c) = [] then ⟨ofR (entsM (entriesR a) (entriesR b) (entriesR c)), [], 0⟩
  else ⟨emptyT, badsR (entriesR a) (entriesR b) (entriesR c), 19⟩
theorem merge_tree {a b c : Trie} (ha : rightB a = true) (hb : rightB b = true) (hc : rightB c = true) :
    ∃ t, rightB t = true ∧ mergeGo (sidesF ((entriesR a).length + (entriesR b).length + (entriesR c).length + 1) (entriesR a) (entriesR b) (entriesR c)) emptyT [] = (t, badsR (entriesR a) (entriesR b) (entriesR c)) ∧
      (badsR (entriesR a) (entriesR b) (entriesR c) = [] → t.ents ⟨#[]⟩ = entsM (entriesR a) (entriesR b) (entriesR c)) := by
  have gA := goodL_right ha
  have gB := goodL_right hb
  have gC := goodL_right hc
  generalize entriesR a = A at *
  generalize entriesR b = B at *
  generalize entriesR c = C at *
  have hS := sides_spec (A.length + B.length + C.length + 1) A B C gA gB gC (by omega)
  have hall := sides_all (f := A.length + B.length + C.length + 1) gA gB gC (by omega)
  have hm := mergeGo_spec (sidesF (A.length + B.length + C.length + 1) A B C) [] emptyT [] hS.1 (fun s hs => by
    obtain ⟨j1, j2, j3⟩ := hS.2.1 s hs
    rw [j1, j2, j3]
    refine ⟨?_, getL_rows gA _, getL_rows gB _, getL_rows gC _⟩
    obtain ⟨x, hx, e⟩ := (hS.2.2 s.path).1 ⟨s, hs, rfl⟩
    rw [← e]
    rcases hx with hx | hx | hx
    · exact (gA.2 x hx).1
    · exact (gB.2 x hx).1
    · exact (gC.2 x hx).1) right_nil rfl
  simp only [List.nil_append] at hm
  have hbad : badsOf (sidesF (A.length + B.length + C.length + 1) A B C) = badsR A B C := by
    rw [hall]
    unfold badsOf badsR
    rw [List.filter_map, List.map_map]
    conv => rhs; rw [← List.map_id (List.filter _ _)]
    rfl
  refine ⟨_, hm.1, Prod.ext rfl (hm.2.2.trans hbad), fun h0 => ?_⟩
  rw [hm.2.1, hall]
  unfold entsOf entsM
  rw [List.flatMap_map]
  have hno : ∀ q, q ∈ allP A B C → badF (getL A q) (getL B q) (getL C q) = false := fun q hq => by
    have := List.filter_eq_nil_iff.1 h0 q hq
    simpa using this
  generalize allP A B C = L at hno
  induction L with
  | nil => rfl
  | cons q L ih =>
    rw [List.flatMap_cons, List.flatMap_cons, ih (fun q' h => hno q' (by simp [h]))]
    congr 1
    have := hno q (by simp)
    by_cases hp : pickF (getL A q) (getL B q) (getL C q) = []
    · simp [hp]
    · simp [hp, this]
/-- Both tell the same. -/
theorem merge_eq (a b c : Trie) : mergeP a b c = mergeR a b c := by
  unfold mergeP mergeR
  split
  · rfl
  · rename_i h
    simp only [Bool.not_eq_true', Bool.and_eq_false_iff, not_or, Bool.not_eq_false] at h
    obtain ⟨t, h1, h2, h3⟩ := merge_tree h.1 h.2.1 h.2.2
    rw [h2]
    simp only
    split
    · rename_i h0
      rw [← h3 h0, ofR_ents h1]
    · rfl
end Go.Proofs.YtjnkbmodcddbkaaDoor
