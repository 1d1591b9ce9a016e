/- What the arguments of a call are, as the logic's values. -/
import Derived.Test.YtjnkbmodcddbkaaDoorShf
import Derived.Test.YtjnkbmodcddbkaaDoorDat
import Derived.ChangeArms
import Derived.DataElems
import Derived.DataReads
set_option linter.unusedVariables false
set_option linter.unusedSimpArgs false
namespace Go.Proofs.YtjnkbmodcddbkaaDoor
open Go Go.RowKit
section
variable {H : Type} {enc : TypeId × Value → H} {W : World} {Y : Nat → Prop} {sp : Nat → Bool}
/-- The cells bear the data. -/
def RR (Y : Nat → Prop) (W : World) (ds : List D) (cs : List Value) : Prop := cs.length = ds.length ∧ ∀ (i : Nat) (x : D) (v : Value), ds[i]? = some x → cs[i]? = some v → DR Y W x v
theorem RR.nil : RR Y W [] [] := ⟨rfl, fun i x v h => by simp at h⟩
theorem RR.cons {d : D} {v : Value} {ds : List D} {cs : List Value} (h : DR Y W d v) (k : RR Y W ds cs) : RR Y W (d :: ds) (v :: cs) := by
  refine ⟨by simp [k.1], fun i x u hd hc => ?_⟩
  cases i with
  | zero => simp at hd hc; subst hd; subst hc; exact h
  | succ i => simp at hd hc; exact k.2 i x u hd hc
theorem len3 {l : List Value} (h : l.length = 3) : ∃ a b c, l = [a, b, c] := by
  match l, h with
  | [a, b, c], _ => exact ⟨a, b, c, rfl⟩
theorem len5 {l : List Value} (h : l.length = 5) : ∃ a b c d e, l = [a, b, c, d, e] := by
  match l, h with
  | [a, b, c, d, e], _ => exact ⟨a, b, c, d, e, rfl⟩
theorem block_of_cell {w : World} {a : Addr} {v : Value} (h : w.cell? a = some v) : a.block < w.heap.size := by
  unfold World.cell? at h
  rcases Nat.lt_or_ge a.block w.heap.size with hl | hl
  · exact hl
  · rw [Array.getElem?_eq_none hl] at h
    simp at h
theorem in_slice {P : Program} {α : Type} {enc1 : α → List D} {good : α → Prop} {sz : Nat} {e t : TypeId} (hY : ∀ b, ¬ Y b) (ht : P.underlying t = some (.slice e)) (hsz : P.cellsOf e = sz) (hpos : 0 < sz) (hlen : ∀ a, (enc1 a).length = sz) {n : Nat} {cs : List Value} {x : DataW H × List MemPlace}
    (h : DataW.trod enc P W 0 sp true n t cs = some x) (hel : ∀ (m : Nat) (cs' : List Value) (x' : DataW H × List MemPlace), m < n → DataW.trod enc P W 0 sp true m e cs' = some x' → ∃ a, good a ∧ RR Y W (enc1 a) cs') :
    ∃ xs : List α, (∀ a, a ∈ xs → good a) ∧ xs.length ≤ 9223372036854775807 ∧ ∃ v, cs = [v] ∧ DR Y W (.sl (xs.map enc1)) v := by
  rcases DataW.trod_slice ht h with ⟨rfl, _⟩ | ⟨a, len, cap, elems, rest, m, rfl, rfl, _, _, hlc, hcm, hel1, hall, _, _⟩
  · exact ⟨[], fun a ha => (by simp at ha), by simp, _, rfl, .sl [] none 0 sz ⟨0, 0, none⟩ (fun _ _ => undef) (Nat.le_refl _) (by simp) (fun r hr => (by simp at hr)) (fun h0 => (by simp at h0)) (fun j i r x hj => by simp at hj) (fun j i r x hj => by simp at hj)⟩
  · have key : ∀ k, k ≤ len → ∃ xs : List α, xs.length = k ∧ ∀ (j : Nat) (b : α), xs[j]? = some b → good b ∧ ∃ cs', W.cells? 0 (a.add (j * sz)) sz = some cs' ∧ RR Y W (enc1 b) cs' := by
      intro k
      induction k with
      | zero => intro _; exact ⟨[], rfl, fun j b hb => by simp at hb⟩
      | succ k ih =>
        intro hk
        obtain ⟨xs, hx1, hx2⟩ := ih (by omega)
        have h1 := hall k (by omega)
        rw [hsz] at h1
        obtain ⟨y, hy⟩ : ∃ y, elems[k]? = some y := ⟨elems[k]'(by omega), List.getElem?_eq_getElem (by omega)⟩
        rw [hy] at h1
        obtain ⟨cs', hc, ht'⟩ := Option.bind_eq_some_iff.1 h1
        obtain ⟨b, hg, hr⟩ := hel m cs' y (by omega) ht'
        refine ⟨xs ++ [b], by simp [hx1], fun j b' hb => ?_⟩
        rcases Nat.lt_or_ge j xs.length with hj | hj
        · rw [List.getElem?_append_left hj] at hb
          exact hx2 j b' hb
        · rw [List.getElem?_append_right hj] at hb
          have hj0 : j - xs.length = 0 := by
            have := (List.getElem?_eq_some_iff.1 hb).1
            simp at this
            omega
          rw [hj0] at hb
          simp at hb
          subst hb
          obtain rfl : j = k := by omega
          exact ⟨hg, cs', hc, hr⟩
    obtain ⟨xs, hx1, hx2⟩ := key len (Nat.le_refl _)
    have hm : cap ≤ 9223372036854775807 := hcm
    have hcell : ∀ (j i : Nat) (r : List D) (x : D), (xs.map enc1)[j]? = some r → r[i]? = some x → ∃ v, W.cell? (a.add (j * sz + i)) = some v ∧ DR Y W x v := by
      intro j i r x hj hi
      rw [List.getElem?_map, Option.map_eq_some_iff] at hj
      obtain ⟨b, hb, rfl⟩ := hj
      obtain ⟨_, cs', hc, hr⟩ := hx2 j b hb
      obtain ⟨_, hcl, hcc⟩ := World.cells?_some hc
      have hi1 := (List.getElem?_eq_some_iff.1 hi).1
      rw [hlen] at hi1
      have h2 := hcc i hi1
      rw [Addr.add_add] at h2
      obtain ⟨v, hv⟩ : ∃ v, cs'[i]? = some v := ⟨cs'[i]'(by omega), List.getElem?_eq_getElem (by omega)⟩
      exact ⟨v, by rw [h2, hv], hr.2 i x v hi hv⟩
    have hD : DR Y W (.sl (xs.map enc1)) (.slice (some a) (xs.map enc1).length cap) := by
      refine .sl (xs.map enc1) (some a) cap sz a (fun j i => (W.cell? (a.add (j * sz + i))).getD undef) (by simp; omega) (by simp; omega) (fun r hr => ?_) (fun h0 => ⟨rfl, hY _, ?_⟩) (fun j i r x hj hi => ?_) (fun j i r x hj hi => ?_)
      · obtain ⟨b, _, rfl⟩ := List.mem_map.1 hr
        exact hlen b
      · have h0' : 0 < xs.length := by simpa using h0
        obtain ⟨b, hb⟩ : ∃ b, xs[0]? = some b := ⟨xs[0]'h0', List.getElem?_eq_getElem h0'⟩
        obtain ⟨d, hd⟩ : ∃ d, (enc1 b)[0]? = some d := ⟨(enc1 b)[0]'(by rw [hlen]; exact hpos), List.getElem?_eq_getElem (by rw [hlen]; exact hpos)⟩
        obtain ⟨v, hv, _⟩ := hcell 0 0 (enc1 b) d (by rw [List.getElem?_map, hb]; rfl) hd
        have := block_of_cell hv
        rwa [add_block] at this
      · obtain ⟨v, hv, _⟩ := hcell j i r x hj hi
        rw [hv]
        rfl
      · obtain ⟨v, hv, hd⟩ := hcell j i r x hj hi
        rw [hv]
        exact hd
    refine ⟨xs, fun b hb => ?_, by omega, _, rfl, ?_⟩
    · obtain ⟨j, hj⟩ := List.getElem?_of_mem hb
      exact (hx2 j b hj).1
    · rw [List.length_map, hx1] at hD
      exact hD
theorem inc3 : Tryd.prog.cellsOf 3 = 1 := by kernel_rfl
theorem inc9 : Tryd.prog.cellsOf 9 = 1 := by kernel_rfl
theorem inc22 : Tryd.prog.cellsOf 22 = 1 := by kernel_rfl
theorem inc23 : Tryd.prog.cellsOf 23 = 1 := by kernel_rfl
theorem inc25 : Tryd.prog.cellsOf 25 = 3 := by kernel_rfl
theorem inc45 : Tryd.prog.cellsOf 45 = 1 := by kernel_rfl
theorem inc47 : Tryd.prog.cellsOf 47 = 3 := by kernel_rfl
theorem inc49 : Tryd.prog.cellsOf 49 = 5 := by kernel_rfl
theorem in_val {n : Nat} {cs : List Value} {x : DataW H × List MemPlace} (h : DataW.trod enc Tryd.prog W 0 sp true n 47 cs = some x) : ∃ v : Val, RR Y W (encVal v) cs := by
  obtain ⟨ys, m, rfl, -, hl, hyl, hall⟩ := DataW.trod_struct Tryd.underlying47 h
  rw [inc47] at hl
  obtain ⟨c0, c1, c2, rfl⟩ := len3 hl
  obtain ⟨y0, hy0⟩ : ∃ y, ys[0]? = some y := ⟨ys[0]'(by rw [hyl]; decide), List.getElem?_eq_getElem (by rw [hyl]; decide)⟩
  have f0 := hall 0 _ rfl
  rw [hy0] at f0
  change DataW.trod _ _ _ _ _ _ _ 45 (([c0, c1, c2].drop 0).take (Tryd.prog.cellsOf 45)) = _ at f0
  rw [inc45] at f0
  change DataW.trod _ _ _ _ _ _ _ 45 [c0] = _ at f0
  obtain ⟨y1, hy1⟩ : ∃ y, ys[1]? = some y := ⟨ys[1]'(by rw [hyl]; decide), List.getElem?_eq_getElem (by rw [hyl]; decide)⟩
  have f1 := hall 1 _ rfl
  rw [hy1] at f1
  change DataW.trod _ _ _ _ _ _ _ 3 (([c0, c1, c2].drop 1).take (Tryd.prog.cellsOf 3)) = _ at f1
  rw [inc3] at f1
  change DataW.trod _ _ _ _ _ _ _ 3 [c1] = _ at f1
  obtain ⟨y2, hy2⟩ : ∃ y, ys[2]? = some y := ⟨ys[2]'(by rw [hyl]; decide), List.getElem?_eq_getElem (by rw [hyl]; decide)⟩
  have f2 := hall 2 _ rfl
  rw [hy2] at f2
  change DataW.trod _ _ _ _ _ _ _ 9 (([c0, c1, c2].drop 2).take (Tryd.prog.cellsOf 9)) = _ at f2
  rw [inc9] at f2
  change DataW.trod _ _ _ _ _ _ _ 9 [c2] = _ at f2
  obtain ⟨z0, e0, -, -⟩ := DataW.trod_int Tryd.underlying45 f0
  obtain rfl : c0 = _ := by simpa using e0
  obtain ⟨z1, e1, -, -⟩ := DataW.trod_int Tryd.underlying3 f1
  obtain rfl : c1 = _ := by simpa using e1
  obtain ⟨z2, e2, -, l2⟩ := DataW.trod_string Tryd.underlying9 f2
  obtain rfl : c2 = _ := by simpa using e2
  exact ⟨⟨z0, z1, z2⟩, .cons (.i _ _) (.cons (.i _ _) (.cons (.s _) .nil))⟩
theorem in_row {n : Nat} {cs : List Value} {x : DataW H × List MemPlace} (h : DataW.trod enc Tryd.prog W 0 sp true n 49 cs = some x) : ∃ r : Row, RR Y W (encRow r) cs := by
  obtain ⟨ys, m, rfl, -, hl, hyl, hall⟩ := DataW.trod_struct Tryd.underlying49 h
  rw [inc49] at hl
  obtain ⟨c0, c1, c2, c3, c4, rfl⟩ := len5 hl
  obtain ⟨y0, hy0⟩ : ∃ y, ys[0]? = some y := ⟨ys[0]'(by rw [hyl]; decide), List.getElem?_eq_getElem (by rw [hyl]; decide)⟩
  have f0 := hall 0 _ rfl
  rw [hy0] at f0
  change DataW.trod _ _ _ _ _ _ _ 3 (([c0, c1, c2, c3, c4].drop 0).take (Tryd.prog.cellsOf 3)) = _ at f0
  rw [inc3] at f0
  change DataW.trod _ _ _ _ _ _ _ 3 [c0] = _ at f0
  obtain ⟨y1, hy1⟩ : ∃ y, ys[1]? = some y := ⟨ys[1]'(by rw [hyl]; decide), List.getElem?_eq_getElem (by rw [hyl]; decide)⟩
  have f1 := hall 1 _ rfl
  rw [hy1] at f1
  change DataW.trod _ _ _ _ _ _ _ 3 (([c0, c1, c2, c3, c4].drop 1).take (Tryd.prog.cellsOf 3)) = _ at f1
  rw [inc3] at f1
  change DataW.trod _ _ _ _ _ _ _ 3 [c1] = _ at f1
  obtain ⟨y2, hy2⟩ : ∃ y, ys[2]? = some y := ⟨ys[2]'(by rw [hyl]; decide), List.getElem?_eq_getElem (by rw [hyl]; decide)⟩
  have f2 := hall 2 _ rfl
  rw [hy2] at f2
  change DataW.trod _ _ _ _ _ _ _ 47 (([c0, c1, c2, c3, c4].drop 2).take (Tryd.prog.cellsOf 47)) = _ at f2
  rw [inc47] at f2
  change DataW.trod _ _ _ _ _ _ _ 47 [c2, c3, c4] = _ at f2
  obtain ⟨z0, e0, -, -⟩ := DataW.trod_int Tryd.underlying3 f0
  obtain rfl : c0 = _ := by simpa using e0
  obtain ⟨z1, e1, -, -⟩ := DataW.trod_int Tryd.underlying3 f1
  obtain rfl : c1 = _ := by simpa using e1
  obtain ⟨v, hv⟩ := in_val (Y := Y) f2
  exact ⟨⟨z0, z1, v⟩, .cons (.i _ _) (.cons (.i _ _) hv)⟩
theorem in_trie (hY : ∀ b, ¬ Y b) (n : Nat) : ∀ {cs : List Value} {x : DataW H × List MemPlace}, DataW.trod enc Tryd.prog W 0 sp true n 25 cs = some x → ∃ t : Trie, t.lab ∧ RR Y W (encTrie t) cs := by
  induction n using Nat.strongRecOn with
  | ind n ih =>
  intro cs x h
  obtain ⟨ys, m, rfl, -, hl, hyl, hall⟩ := DataW.trod_struct Tryd.underlying25 h
  rw [inc25] at hl
  obtain ⟨c0, c1, c2, rfl⟩ := len3 hl
  obtain ⟨y0, hy0⟩ : ∃ y, ys[0]? = some y := ⟨ys[0]'(by rw [hyl]; decide), List.getElem?_eq_getElem (by rw [hyl]; decide)⟩
  have f0 := hall 0 _ rfl
  rw [hy0] at f0
  change DataW.trod _ _ _ _ _ _ _ 9 (([c0, c1, c2].drop 0).take (Tryd.prog.cellsOf 9)) = _ at f0
  rw [inc9] at f0
  change DataW.trod _ _ _ _ _ _ _ 9 [c0] = _ at f0
  obtain ⟨y1, hy1⟩ : ∃ y, ys[1]? = some y := ⟨ys[1]'(by rw [hyl]; decide), List.getElem?_eq_getElem (by rw [hyl]; decide)⟩
  have f1 := hall 1 _ rfl
  rw [hy1] at f1
  change DataW.trod _ _ _ _ _ _ _ 22 (([c0, c1, c2].drop 1).take (Tryd.prog.cellsOf 22)) = _ at f1
  rw [inc22] at f1
  change DataW.trod _ _ _ _ _ _ _ 22 [c1] = _ at f1
  obtain ⟨y2, hy2⟩ : ∃ y, ys[2]? = some y := ⟨ys[2]'(by rw [hyl]; decide), List.getElem?_eq_getElem (by rw [hyl]; decide)⟩
  have f2 := hall 2 _ rfl
  rw [hy2] at f2
  change DataW.trod _ _ _ _ _ _ _ 23 (([c0, c1, c2].drop 2).take (Tryd.prog.cellsOf 23)) = _ at f2
  rw [inc23] at f2
  change DataW.trod _ _ _ _ _ _ _ 23 [c2] = _ at f2
  obtain ⟨z0, e0, -, l0⟩ := DataW.trod_string Tryd.underlying9 f0
  obtain rfl : c0 = _ := by simpa using e0
  obtain ⟨rs, -, hrl, v1, e1, hd1⟩ := in_slice (good := fun _ : Row => True) (enc1 := encRow) hY Tryd.underlying22 inc49 (by decide) (fun _ => rfl) f1 (fun m' cs' x' _ ht => (in_row ht).imp fun r hr => ⟨trivial, hr⟩)
  obtain rfl : c1 = _ := by simpa using e1
  obtain ⟨ts, htl, hkl, v2, e2, hd2⟩ := in_slice (good := Trie.lab) (enc1 := encTrie) hY Tryd.underlying23 inc25 (by decide) encTrie_len f2 (fun m' cs' x' hm ht => ih m' (by omega) ht)
  obtain rfl : c2 = _ := by simpa using e2
  refine ⟨.mk z0 rs ts, ?_, ?_⟩
  · simp only [Trie.lab]
    refine ⟨l0, hrl, hkl, ?_⟩
    clear hkl hd2 e2 f2
    induction ts with
    | nil => trivial
    | cons t r ih' => exact ⟨htl t (by simp), ih' (fun u hu => htl u (by simp [hu]))⟩
  · rw [← encTries_eq] at hd2
    exact .cons (.s _) (.cons hd1 (.cons hd2 .nil))
theorem arg_trie (hY : ∀ b, ¬ Y b) {v : Value} {d : DataW H} {p : List MemPlace} (h : DataW.Trod enc Tryd.prog W 0 sp true 25 v d p) : ∃ t : Trie, t.lab ∧ AVR Y W (aTrie t) v := by
  obtain ⟨n, hn⟩ := h
  obtain ⟨t, hl, hr⟩ := in_trie hY n hn
  refine ⟨t, hl, ?_⟩
  have h3 : v.cells.size = 3 := by
    have := hr.1
    rw [encTrie_len] at this
    simpa using this
  cases v <;> simp [Value.cells] at h3
  rename_i cs
  obtain ⟨cs⟩ := cs
  show AVR Y W (.agg [.d (.s t.label), .d (dRows t.rows), .d (.sl (encTries t.kids))]) (.agg cs.toArray)
  have hr' : RR Y W (encTrie t) cs := hr
  rw [encTrie_eta] at hr'
  refine .agg _ _ hr'.1 (fun i c u hc hu => ?_)
  have hc' : (List.map AV.d [.s t.label, dRows t.rows, .sl (encTries t.kids)])[i]? = some c := hc
  rw [List.getElem?_map, Option.map_eq_some_iff] at hc'
  obtain ⟨y, hy, rfl⟩ := hc'
  exact .d (hr'.2 i y u hy hu)
end
/-- The first world of a call. -/
theorem rel_first {W : World} (hu : Lib.Utf8Tabs 1 2 W) : Rel (fun _ => False) W [] := by
  have hY : ∀ b, ¬ Xh (fun _ => False) [] b := fun b h => by simp [Xh, keys] at h
  refine ⟨by simp [keys], fun g hg => by simp [keys] at hg, fun g hg => by simp [keys] at hg, fun g hg => hg.elim, fun g b hb => by simp at hb, hY _, hY _, ?_, ?_, hu⟩
  · exact block_of_cell (a := ⟨1, 0, none⟩) (hu.1 0 (by decide))
  · exact block_of_cell (a := ⟨2, 0, none⟩) (hu.2 0 (by decide)).1
theorem below_of_step {W W' : World} (st : Step [] [] W W') : Below W.heap.size W W' := ⟨st.os, st.tape, st.output, st.size, fun k hk => st.keep k hk (by simp [keys])⟩
end Go.Proofs.YtjnkbmodcddbkaaDoor
