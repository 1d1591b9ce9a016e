/- The data of the statements, typed, and how they lie in memory. -/
import Derived.Test.YtjnkbmodcddbkaaDoorAw6
set_option linter.unusedVariables false
set_option linter.unusedSimpArgs false
namespace Go.Proofs.YtjnkbmodcddbkaaDoor
open Go Go.RowKit

structure Val where
  kind : Int
  n : Int
  s : ByteArray
deriving DecidableEq
structure Row where
  fr : Int
  to : Int
  v : Val
deriving DecidableEq
def encVal (v : Val) : List D := [.i .i64 v.kind, .i .i64 v.n, .s v.s]
def encRow (r : Row) : List D := [.i .i64 r.fr, .i .i64 r.to, .i .i64 r.v.kind, .i .i64 r.v.n, .s r.v.s]
theorem row_eq {a b : Row} : (a.fr = b.fr ∧ a.to = b.to ∧ (a.v.kind = b.v.kind ∧ a.v.n = b.v.n ∧ a.v.s = b.v.s)) ↔ a = b := by
  obtain ⟨a1, a2, a3, a4, a5⟩ := a
  obtain ⟨b1, b2, b3, b4, b5⟩ := b
  simp
theorem val_eq {a b : Val} : (a.kind = b.kind ∧ a.n = b.n ∧ a.s = b.s) ↔ a = b := by
  obtain ⟨a3, a4, a5⟩ := a
  obtain ⟨b3, b4, b5⟩ := b
  simp
def dStrs (l : List ByteArray) : D := .sl (l.map fun s => [.s s])
theorem bl_inj {a b : ByteArray} : bl a = bl b ↔ a = b := by
  constructor
  · intro h
    unfold bl at h
    exact ByteArray.ext (Array.toList_inj.1 (by simpa using h))
  · rintro rfl; rfl
theorem take_eq_step {α : Type} {l m : List α} {i : Nat} {a : α} (h1 : l[i]? = some a) (h2 : m[i]? = some a) (h : l.take i = m.take i) : l.take (i + 1) = m.take (i + 1) := by
  rw [List.take_add_one, List.take_add_one, h1, h2, h]
theorem take_full {α : Type} {l m : List α} {i : Nat} (hl : l.length = m.length) (hi : l.length ≤ i) (h : l.take i = m.take i) : l = m := by
  rwa [List.take_of_length_le hi, List.take_of_length_le (by omega)] at h
theorem ne_at {α : Type} {l m : List α} {i : Nat} {a b : α} (h1 : l[i]? = some a) (h2 : m[i]? = some b) (h : a ≠ b) : l ≠ m := fun e => by
  subst e
  rw [h1] at h2
  injection h2 with h2
  exact h h2
def dRows (l : List Row) : D := .sl (l.map encRow)
inductive Trie where
  | mk (label : ByteArray) (rows : List Row) (kids : List Trie)
def Trie.label : Trie → ByteArray | .mk l _ _ => l
def Trie.rows : Trie → List Row | .mk _ r _ => r
def Trie.kids : Trie → List Trie | .mk _ _ k => k
mutual
def encTrie : Trie → List D
  | .mk l r k => [.s l, dRows r, .sl (encTries k)]
def encTries : List Trie → List (List D)
  | [] => []
  | t :: r => encTrie t :: encTries r
end
theorem encTries_eq (l : List Trie) : encTries l = l.map encTrie := by
  induction l with
  | nil => rfl
  | cons t r ih => simp only [encTries, ih, List.map_cons]
theorem encTrie_eta (t : Trie) : encTrie t = [.s t.label, dRows t.rows, .sl (encTries t.kids)] := by cases t; rfl
theorem encTrie_len (t : Trie) : (encTrie t).length = 3 := by cases t; rfl
@[simp] theorem encTries_len (l : List Trie) : (encTries l).length = l.length := by rw [encTries_eq]; simp
theorem encTries_at {l : List Trie} {i : Nat} {t : Trie} (h : l[i]? = some t) : (encTries l)[((i : Nat) : Int).toNat]? = some (encTrie t) := by
  rw [encTries_eq, Int.toNat_natCast, List.getElem?_map, h]; rfl
theorem map_at {α β : Type} {f : α → β} {l : List α} {i : Nat} {t : α} (h : l[i]? = some t) : (l.map f)[((i : Nat) : Int).toNat]? = some (f t) := by
  rw [Int.toNat_natCast, List.getElem?_map, h]; rfl
theorem some_at {α : Type} {l : List α} {i : Nat} (h : i < l.length) : ∃ t, l[i]? = some t := ⟨l[i], List.getElem?_eq_getElem h⟩
/-- A struct's cells as a value. -/
def aD (l : List D) : AV := .agg (l.map .d)
def aTrie (t : Trie) : AV := .agg [.d (.s t.label), .d (dRows t.rows), .d (.sl (encTries t.kids))]

/- Labels are no longer than what memory bears. -/
mutual
def Trie.lab : Trie → Prop
  | .mk l r k => l.size ≤ 9223372036854775807 ∧ r.length ≤ 9223372036854775807 ∧ k.length ≤ 9223372036854775807 ∧ labs k
def labs : List Trie → Prop
  | [] => True
  | t :: r => t.lab ∧ labs r
end
theorem labs_mem {l : List Trie} (h : labs l) {t : Trie} (ht : t ∈ l) : t.lab := by
  induction l with
  | nil => simp at ht
  | cons u r ih =>
    simp only [labs] at h
    rcases List.mem_cons.1 ht with rfl | ht
    · exact h.1
    · exact ih h.2 ht

/-! ### the guards -/
def shortF (l : List Row) : Bool := decide (l.length ≤ 70) && l.all fun r => decide (r.v.s.size ≤ 100)
mutual
def leftF : Trie → Int → Int → Int
  | .mk l r ks, n, deep => if deep < 1 ∨ n - 1 - (l.size : Int) / 50 < 1 ∨ shortF r = false then 0 else leftKs ks (n - 1 - (l.size : Int) / 50) (deep - 1)
def leftKs : List Trie → Int → Int → Int
  | [], n, _ => n
  | k :: r, n, d => if 0 < n then leftKs r (leftF k n d) d else n
end
theorem Trie.ind {C : Trie → Prop} (h : ∀ l r ks, (∀ k, k ∈ ks → C k) → C (.mk l r ks)) (t : Trie) : C t :=
  Trie.rec (motive_1 := C) (motive_2 := fun l => ∀ k, k ∈ l → C k) (fun l r ks ih => h l r ks ih) (fun k hk => by simp at hk) (fun t r h1 h2 k hk => by
    rcases List.mem_cons.1 hk with rfl | hk
    · exact h1
    · exact h2 k hk) t
theorem leftF_bd : ∀ (t : Trie) (n d : Int), 0 ≤ leftF t n d ∧ (leftF t n d ≤ n ∨ leftF t n d = 0) := by
  intro t
  induction t using Trie.ind with
  | h l r ks ih =>
    intro n d
    have key : ∀ (ks' : List Trie), (∀ k, k ∈ ks' → ∀ (n d : Int), 0 ≤ leftF k n d ∧ (leftF k n d ≤ n ∨ leftF k n d = 0)) → ∀ (n d : Int), 0 ≤ n → 0 ≤ leftKs ks' n d ∧ leftKs ks' n d ≤ n := by
      intro ks'
      induction ks' with
      | nil => intro _ n d hn; simp only [leftKs]; omega
      | cons k ks' ih' =>
        intro hk n d hn
        simp only [leftKs]
        split
        · have h1 := hk k (by simp) n d
          have h2 := ih' (fun k' hk' => hk k' (by simp [hk'])) (leftF k n d) d h1.1
          omega
        · omega
    simp only [leftF]
    split
    · omega
    · rename_i hc
      have hs : (0 : Int) ≤ (l.size : Int) / 50 := by omega
      have := key ks ih (n - 1 - (l.size : Int) / 50) (d - 1) (by omega)
      omega
theorem wr_div {a b : Int} (h0 : 0 ≤ a) (hb : 0 < b) (h1 : a ≤ 9223372036854775807) : IntKind.i64.wrap (a.tdiv b) = a / b := by
  rw [Int.tdiv_eq_ediv_of_nonneg h0]
  have h2 : a / b ≤ a := Int.ediv_le_self _ h0
  have h3 : 0 ≤ a / b := Int.ediv_nonneg h0 (by omega)
  exact wr64 (by omega) (by omega)

/-! ### rows that are right -/
def spanB (a b : Int) : Bool := decide (0 ≤ a ∧ a < b ∧ b ≤ 1099511627776)
/-- Width of the rune at a place; 0: none stands there. -/
def wid1 (s : ByteArray) (at' : Nat) : Nat → Nat → Int → Option Int
  | _, 0, c => some c
  | i, k + 1, c => if (s.size : Int) ≤ (at' : Int) + i ∨ bt s ((at' : Int) + i) / 64 ≠ 2 then none else wid1 s at' (i + 1) k (64 * c + bt s ((at' : Int) + i) % 64)
def widN (s : ByteArray) (at' n : Nat) (c least : Int) : Nat :=
  match wid1 s at' 1 (n - 1) c with
  | none => 0
  | some c => if c < least ∨ (55296 ≤ c ∧ c < 57344) ∨ 1114111 < c then 0 else n
def widR (s : ByteArray) (at' : Nat) : Nat :=
  if s.size ≤ at' then 0
  else if bt s at' < 128 then 1
  else if 192 ≤ bt s at' ∧ bt s at' < 224 then widN s at' 2 (bt s at' - 192) 128
  else if 224 ≤ bt s at' ∧ bt s at' < 240 then widN s at' 3 (bt s at' - 224) 2048
  else if 240 ≤ bt s at' ∧ bt s at' < 248 then widN s at' 4 (bt s at' - 240) 65536
  else 0
def runesF (s : ByteArray) : Nat → Nat → Int
  | 0, _ => 0
  | f + 1, at' => if s.size ≤ at' then 0 else if widR s at' = 0 then -1 else if runesF s f (at' + widR s at') < 0 then -1 else 1 + runesF s f (at' + widR s at')
def runesR (s : ByteArray) : Int := runesF s s.size 0
def valB (v : Val) : Bool := decide (v.kind = 1 ∧ v.s = ⟨#[]⟩) || (decide (v.kind = 2 ∧ v.n = 0 ∧ v.s.size ≤ 40) && decide (0 ≤ runesR v.s))
/-- Does a row touch or cross the one ahead? -/
def joinB (q x : Row) : Bool := decide (x.fr < q.to ∨ (x.fr = q.to ∧ x.v = q.v))
def stepB : Option Row → Row → Bool
  | none, _ => true
  | some q, x => !joinB q x
def okFrom : Option Row → List Row → Bool
  | _, [] => true
  | p, x :: r => spanB x.fr x.to && valB x.v && stepB p x && okFrom (some x) r
theorem okFrom_cons (p : Option Row) (x : Row) (r : List Row) : okFrom p (x :: r) = (spanB x.fr x.to && valB x.v && stepB p x && okFrom (some x) r) := by
  cases p <;> rfl
def rowsB (l : List Row) : Bool := decide (l.length ≤ 64) && okFrom none l
def erI (b : Bool) : Int := if b then 0 else 2
def prevAt {α : Type} (l : List α) (i : Nat) : Option α := if i = 0 then none else l[i - 1]?
theorem prevAt_succ {α : Type} {l : List α} {i : Nat} {x : α} (h : l[i]? = some x) : prevAt l (i + 1) = some x := by simp [prevAt, h]
theorem drop_cons {α : Type} {l : List α} {i : Nat} {x : α} (h : l[i]? = some x) : l.drop i = x :: l.drop (i + 1) := by
  obtain ⟨h1, h2⟩ := List.getElem?_eq_some_iff.1 h
  rw [List.drop_eq_getElem_cons h1, h2]
theorem ne_pos {s : ByteArray} (h : ¬ s = ⟨#[]⟩) : 0 < s.size := by
  rcases Nat.eq_zero_or_pos s.size with h0 | h0
  · refine absurd (ByteArray.ext ?_) h
    exact Array.eq_empty_of_size_eq_zero h0
  · exact h0
/-! ### trees that are right -/
mutual
def nodeB : Trie → Int → Bool
  | .mk l r ks, left => decide (¬ l = ⟨#[]⟩ ∧ (l.size : Int) ≤ left) && rowsB r && !(decide (r = []) && decide (ks.length < 2)) && kidsB ks (left - l.size) (-1)
def kidsB : List Trie → Int → Int → Bool
  | [], _, _ => true
  | t :: r, left, first => nodeB t left && decide (first < bt t.label 0) && kidsB r left (bt t.label 0)
end
def rightB (t : Trie) : Bool := decide (t.label = ⟨#[]⟩) && decide (t.rows = []) && kidsB t.kids 24 (-1)
theorem kidsB_len : ∀ (l : List Trie) (left first : Int), -1 ≤ first → first ≤ 255 → kidsB l left first = true → (l.length : Int) ≤ 255 - first
  | [], left, first, h1, h0, h => by
    simp
    omega
  | t :: r, left, first, h1, h0, h => by
    simp only [kidsB, Bool.and_eq_true, decide_eq_true_eq] at h
    have h2 := bt_range t.label 0
    have := kidsB_len r left (bt t.label 0) (by omega) (by omega) h.2
    simp only [List.length_cons]
    omega

/-! ### entries -/
structure Ent where
  path : ByteArray
  rows : List Row
deriving DecidableEq
def encEnt (e : Ent) : List D := [.s e.path, dRows e.rows]
def dEnts (l : List Ent) : D := .sl (l.map encEnt)
/-- Rows as the logic's cells. -/
def cellsOf {α : Type} (enc : α → List D) (l : List α) : List (List AV) := (l.map enc).map (·.map .d)
theorem cellsOf_append {α : Type} {enc : α → List D} (a b : List α) : cellsOf enc (a ++ b) = cellsOf enc a ++ cellsOf enc b := by simp [cellsOf]
@[simp] theorem cellsOf_len {α : Type} {enc : α → List D} (l : List α) : (cellsOf enc l).length = l.length := by simp [cellsOf]
mutual
def Trie.ents : Trie → ByteArray → List Ent
  | .mk l r ks, p => (if r = [] then [] else [⟨p ++ l, r⟩]) ++ entsL ks (p ++ l)
def entsL : List Trie → ByteArray → List Ent
  | [], _ => []
  | t :: r, p => t.ents p ++ entsL r p
end
mutual
def Trie.cnt : Trie → Nat
  | .mk _ _ ks => 1 + cntL ks
def cntL : List Trie → Nat
  | [] => 0
  | t :: r => t.cnt + cntL r
end
mutual
def Trie.reach : Trie → Nat
  | .mk l _ ks => l.size + reachL ks
def reachL : List Trie → Nat
  | [] => 0
  | t :: r => max t.reach (reachL r)
end
theorem entsL_append : ∀ (a b : List Trie) (p : ByteArray), entsL (a ++ b) p = entsL a p ++ entsL b p
  | [], b, p => by simp [entsL]
  | t :: a, b, p => by simp [entsL, entsL_append a b p]
theorem entsL_take {ks : List Trie} {i : Nat} {t : Trie} {p : ByteArray} (h : ks[i]? = some t) : entsL (ks.take (i + 1)) p = entsL (ks.take i) p ++ t.ents p := by
  rw [List.take_add_one, h, entsL_append]
  simp [entsL]
mutual
theorem ents_len : ∀ (t : Trie) (p : ByteArray), (t.ents p).length ≤ t.cnt
  | .mk l r ks, p => by
    have := entsL_len ks (p ++ l)
    simp only [Trie.ents, Trie.cnt, List.length_append]
    split <;> simp <;> omega
theorem entsL_len : ∀ (l : List Trie) (p : ByteArray), (entsL l p).length ≤ cntL l
  | [], p => by simp [entsL, cntL]
  | t :: r, p => by
    have h1 := ents_len t p
    have h2 := entsL_len r p
    simp only [entsL, cntL, List.length_append]
    omega
end
theorem cntL_take : ∀ (l : List Trie) (i : Nat), cntL (l.take i) ≤ cntL l
  | [], i => by simp [cntL]
  | t :: r, 0 => by simp [cntL]
  | t :: r, i + 1 => by
    have := cntL_take r i
    simp only [List.take_succ_cons, cntL]
    omega
theorem cnt_pos : ∀ (t : Trie), 1 ≤ t.cnt
  | .mk _ _ _ => by simp only [Trie.cnt]; omega
theorem len_cnt : ∀ (l : List Trie), l.length ≤ cntL l
  | [] => by simp
  | t :: r => by
    have h1 := cnt_pos t
    have h2 := len_cnt r
    simp only [cntL, List.length_cons]
    omega
theorem cnt_mem {l : List Trie} {t : Trie} (h : t ∈ l) : t.cnt ≤ cntL l := by
  induction l with
  | nil => cases h
  | cons u r ih =>
    simp only [cntL]
    rcases List.mem_cons.1 h with rfl | h
    · omega
    · have := ih h; omega
theorem reach_mem {l : List Trie} {t : Trie} (h : t ∈ l) : t.reach ≤ reachL l := by
  induction l with
  | nil => cases h
  | cons u r ih =>
    simp only [reachL]
    rcases List.mem_cons.1 h with rfl | h
    · omega
    · have := ih h; omega
mutual
theorem nodeB_reach : ∀ (t : Trie) (left : Int), nodeB t left = true → (t.reach : Int) ≤ left
  | .mk l r ks, left, h => by
    simp only [nodeB, Bool.and_eq_true, decide_eq_true_eq] at h
    have := kidsB_reach ks (left - l.size) (-1) (by omega) h.2
    simp only [Trie.reach]
    omega
theorem kidsB_reach : ∀ (l : List Trie) (left first : Int), 0 ≤ left → kidsB l left first = true → (reachL l : Int) ≤ left
  | [], left, first, h0, h => by simp [reachL]; exact h0
  | t :: r, left, first, h0, h => by
    simp only [kidsB, Bool.and_eq_true, decide_eq_true_eq] at h
    have h1 := nodeB_reach t left h.1.1
    have h2 := kidsB_reach r left _ h0 h.2
    simp only [reachL]
    omega
end
theorem rightB_reach {t : Trie} (h : rightB t = true) : t.reach ≤ 24 := by
  obtain ⟨l, r, ks⟩ := t
  simp only [rightB, Bool.and_eq_true, decide_eq_true_eq, Trie.label, Trie.rows, Trie.kids] at h
  have := kidsB_reach ks 24 (-1) (by omega) h.2
  have hl := of_decide_eq_true h.1.1
  subst hl
  show 0 + reachL ks ≤ 24
  omega

/-! ### what the reference does with entries -/
def entriesR (t : Trie) : List Ent := if rightB t then t.ents ⟨#[]⟩ else []
def getL : List Ent → ByteArray → List Row
  | [], _ => []
  | e :: r, p => if e.path = p then e.rows else getL r p
def encS (s : ByteArray) : List D := [.s s]
def geS (a b : ByteArray) : Bool := !Op.bytesLess (bl a) (bl b)
def insGo (p : ByteArray) : List ByteArray → Bool → List ByteArray
  | [], put => if put then [] else [p]
  | x :: r, put => (if !put && geS x p then [p] else []) ++ ((if x = p then [] else [x]) ++ insGo p r (put || geS x p))
def pathsF : List ByteArray → List Ent → List ByteArray
  | out, [] => out
  | out, e :: r => pathsF (insGo e.path out false) r
theorem insGo_len (p : ByteArray) : ∀ (l : List ByteArray) (put : Bool), (insGo p l put).length ≤ l.length + 1 + (if put then 0 else 0) ∧ (put = true → (insGo p l put).length ≤ l.length)
  | [], put => by cases put <;> simp [insGo]
  | x :: r, put => by
    have h := insGo_len p r (put || geS x p)
    have h2 := insGo_len p r true
    simp only [insGo, List.length_append, List.length_cons]
    cases put
    · cases hg : geS x p
      · rw [hg] at h
        simp at h ⊢
        split <;> simp <;> omega
      · have := h2.2 rfl
        simp
        split <;> simp <;> omega
    · have := h2.2 rfl
      simp
      split <;> simp <;> omega

/-! ### trees made of entries -/
def badAt (n : Nat) (e x : Ent) : Bool := decide (x.path.size ≤ n) || decide (bt x.path n ≠ bt e.path n)
def stopAt (e : Ent) (l : List Ent) (n : Nat) : Bool := decide (e.path.size ≤ n ∨ 24 ≤ n) || l.any (badAt n e)
def comF (e : Ent) (l : List Ent) : Nat → Nat → Nat
  | 0, n => n
  | f + 1, n => if stopAt e l n then n else comF e l f (n + 1)
def comR (e : Ent) (r : List Ent) (at' : Nat) : Nat := comF e (e :: r) (24 - at') at'
theorem comF_bd (e : Ent) (l : List Ent) : ∀ (f n : Nat), n ≤ comF e l f n ∧ comF e l f n ≤ n + f
  | 0, n => ⟨Nat.le_refl _, Nat.le_refl _⟩
  | f + 1, n => by
    have := comF_bd e l f (n + 1)
    simp only [comF]
    split <;> omega
def sameB (at' : Nat) (e x : Ent) : Bool := decide (bt x.path at' = bt e.path at')
def runs (at' : Nat) : Nat → List Ent → List (List Ent)
  | 0, _ => []
  | _ + 1, [] => []
  | f + 1, e :: r => (e :: r.takeWhile (sameB at' e)) :: runs at' f (r.dropWhile (sameB at' e))
def restOf (e : Ent) (r : List Ent) (n : Nat) : List Ent := if e.path.size = n then r else e :: r
def nodeF : Nat → List Ent → Nat → Trie
  | 0, _, _ => .mk ⟨#[]⟩ [] []
  | _ + 1, [], _ => .mk ⟨#[]⟩ [] []
  | f + 1, e :: r, at' => .mk (e.path.extract at' (comR e r at')) (if e.path.size = comR e r at' then e.rows else []) ((runs (comR e r at') (restOf e r (comR e r at')).length (restOf e r (comR e r at'))).map (fun g => nodeF f g (comR e r at')))
def belowF (f : Nat) (l : List Ent) (at' : Nat) : List Trie := (runs at' l.length l).map (fun g => nodeF f g at')
def ofR (l : List Ent) : Trie := .mk ⟨#[]⟩ [] (belowF 25 l 0)
theorem take_while {α : Type} {p : α → Bool} : ∀ {l : List α} {m : Nat}, m ≤ l.length → (∀ x, x ∈ l.take m → p x = true) → (∀ x, l[m]? = some x → p x = false) → l.takeWhile p = l.take m ∧ l.dropWhile p = l.drop m
  | [], m, _, _, _ => by simp
  | x :: l, 0, _, _, h => by have := h x (by simp); simp [List.takeWhile, List.dropWhile, this]
  | x :: l, m + 1, hm, h1, h2 => by
    have hx := h1 x (by simp)
    have := take_while (p := p) (l := l) (m := m) (by simpa using hm) (fun y hy => h1 y (by simp [hy])) (fun y hy => h2 y (by simpa using hy))
    simp [List.takeWhile, List.dropWhile, hx, this]
theorem wrU64 {x : Int} (h1 : 0 ≤ x) (h2 : x ≤ 9223372036854775807) : IntKind.u64.wrap x = x := by
  rw [IntKind.wrap_u64]; omega
theorem shr1 {x : Int} (h : 0 ≤ x) : x.fdiv (2 ^ (min (1 : Int).toNat IntKind.u64.bits)) = x / 2 := by
  have : (2 : Int) ^ (min (1 : Int).toNat IntKind.u64.bits) = 2 := by decide
  rw [this, Int.fdiv_eq_ediv_of_nonneg _ (by omega)]
/-! ### places among kids -/
def posF (l : List Trie) (b : Int) : Nat := (l.takeWhile (fun t => decide (bt t.label 0 < b))).length
def hitB (l : List Trie) (b : Int) : Bool := match l[posF l b]? with
  | some t => decide (bt t.label 0 = b)
  | none => false
theorem posF_eq {l : List Trie} {b : Int} {i : Nat} (hi : i ≤ l.length) (h1 : ∀ (k : Nat) (t : Trie), k < i → l[k]? = some t → bt t.label 0 < b) (h2 : ∀ t, l[i]? = some t → b ≤ bt t.label 0) : posF l b = i := by
  have := take_while (p := fun t : Trie => decide (bt t.label 0 < b)) (l := l) (m := i) hi (fun x hx => by
    obtain ⟨k, hk⟩ := List.getElem?_of_mem hx
    rw [List.getElem?_take] at hk
    split at hk
    · exact decide_eq_true (h1 k x ‹_› hk)
    · cases hk) (fun x hx => decide_eq_false (by have := h2 x hx; omega))
  unfold posF
  rw [this.1, List.length_take]
  omega
def idxF {α : Type} (p : α → Bool) (l : List α) : Int := match l.findIdx? p with
  | some i => i
  | none => -1
theorem idxF_none {α : Type} {p : α → Bool} {l : List α} (h : l.any p = false) : idxF p l = -1 := by
  have : l.findIdx? p = none := by
    rw [List.findIdx?_eq_none_iff]
    intro x hx
    have := List.any_eq_false.1 h x hx
    simpa using this
  simp [idxF, this]
theorem idxF_pos {α : Type} {p : α → Bool} {l : List α} : decide (0 ≤ idxF p l) = l.any p := by
  unfold idxF
  cases h : l.findIdx? p with
  | none =>
    have := List.findIdx?_eq_none_iff.1 h
    simp
    intro x hx
    exact this x hx
  | some i =>
    have := List.findIdx?_eq_some_iff_getElem.1 h
    obtain ⟨h1, h2, _⟩ := this
    simp
    exact ⟨l[i], List.getElem_mem h1, h2⟩
theorem idxF_at {α : Type} {p : α → Bool} {l : List α} {i : Nat} {x : α} (h1 : (l.take i).any p = false) (hx : l[i]? = some x) (hp : p x = true) : idxF p l = i := by
  have hi := (List.getElem?_eq_some_iff.1 hx).1
  have : l.findIdx? p = some i := by
    rw [List.findIdx?_eq_some_iff_getElem]
    refine ⟨hi, ?_, fun j hj => ?_⟩
    · rw [(List.getElem?_eq_some_iff.1 hx).2]; exact hp
    · have := List.any_eq_false.1 h1 (l[j]'(by omega)) (by
        have h2 : (l.take i)[j]? = some (l[j]'(by omega)) := by rw [List.getElem?_take, if_pos hj, List.getElem?_eq_getElem (by omega)]
        exact List.mem_of_getElem? h2)
      simpa using this
  simp [idxF, this]

/-! ### pieces of nodes -/
def splitT : Trie → Nat → Trie
  | .mk l r ks, n => .mk (l.extract 0 n) [] [.mk (l.extract n l.size) r ks]
def joinedT : Trie → Trie × Bool
  | .mk l r ks => if r ≠ [] ∨ 1 < ks.length then (.mk l r ks, true) else match ks with
    | [] => (.mk ⟨#[]⟩ [] [], false)
    | k :: _ => (.mk (l ++ k.label) k.rows k.kids, true)
def shF (a b : ByteArray) : Nat → Nat → Nat
  | 0, n => n
  | f + 1, n => if n < a.size ∧ n < b.size ∧ bt a n = bt b n then shF a b f (n + 1) else n
def shR (a b : ByteArray) : Nat := shF a b a.size 0
end Go.Proofs.YtjnkbmodcddbkaaDoor
