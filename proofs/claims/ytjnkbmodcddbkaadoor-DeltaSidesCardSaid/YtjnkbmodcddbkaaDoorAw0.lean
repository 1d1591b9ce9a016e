/- A logic of abstract states over the machine's walk. Part 0: abstract values, heaps, what it means that a world bears them, and that this lasts. -/
import Derived.RangeFuncIn
import Derived.RangeFuncLeaves
import Derived.OrdersIn
import Derived.Deep.LoopGhost
import Derived.WalkKit
import Derived.Below
import Derived.Shelf.Unicode.DecodeSlow
set_option linter.unusedVariables false
set_option linter.unusedSimpArgs false
namespace Go.Proofs.YtjnkbmodcddbkaaDoor
open Go

/-- Data that no one writes any more. A slice: its elements, each as its cells. -/
inductive D where
  | b (x : Bool)
  | i (k : IntKind) (n : Int)
  | s (x : ByteArray)
  | sl (xs : List (List D))
  /-- A function with variables of its own that nobody writes any more: the cells of each. -/
  | fn (f : FuncId) (caps : List (List D))
  /-- Just this value. -/
  | v (x : Value)

/-- Values as the logic sees them. -/
inductive AV where
  | d (x : D)
  | nil
  | ptr (g off : Nat)
  | fptr (cells : List D)
  | own (g off len cap : Nat)
  | fn (f : Fn) (cap : List AV)
  | agg (cells : List AV)
  | tup (vs : List AV)
  | junk

/-- w: what the data read as; Y: blocks in which they do not lie. -/
inductive DR (Y : Nat → Prop) (w : World) : D → Value → Prop where
  | b (x : Bool) : DR Y w (.b x) (.bool x)
  | i (k : IntKind) (n : Int) : DR Y w (.i k n) (.int k n)
  | s (x : ByteArray) : DR Y w (.s x) (.string x)
  | sl (xs : List (List D)) (A : Option Addr) (c sz : Nat) (ad : Addr) (vals : Nat → Nat → Value) (hc : xs.length ≤ c) (hm : xs.length ≤ 9223372036854775807)
      (hsz : ∀ r, r ∈ xs → r.length = sz) (hA : 0 < xs.length → A = some ad ∧ ¬ Y ad.block ∧ ad.block < w.heap.size)
      (hv : ∀ (j i : Nat) (r : List D) (x : D), xs[j]? = some r → r[i]? = some x → w.cell? (ad.add (j * sz + i)) = some (vals j i))
      (hr : ∀ (j i : Nat) (r : List D) (x : D), xs[j]? = some r → r[i]? = some x → DR Y w x (vals j i)) : DR Y w (.sl xs) (.slice A xs.length c)
  | fn (f : FuncId) (caps : List (List D)) (ads : Nat → Addr) (vals : Nat → Nat → Value) (hA : ∀ j, j < caps.length → ¬ Y (ads j).block ∧ (ads j).block < w.heap.size)
      (hv : ∀ (j i : Nat) (r : List D) (x : D), caps[j]? = some r → r[i]? = some x → w.cell? ((ads j).add i) = some (vals j i))
      (hr : ∀ (j i : Nat) (r : List D) (x : D), caps[j]? = some r → r[i]? = some x → DR Y w x (vals j i)) : DR Y w (.fn f caps) (.func (.func f) #[] ((List.range caps.length).map (fun j => Value.pointer (some (ads j)))).toArray)
  | v (x : Value) (h : x.oneCell' = true) : DR Y w (.v x) x

inductive AVR (Y : Nat → Prop) (w : World) : AV → Value → Prop where
  | d {x : D} {v : Value} (h : DR Y w x v) : AVR Y w (.d x) v
  | nil : AVR Y w .nil (.slice none 0 0)
  | ptr (g off : Nat) : AVR Y w (.ptr g off) (.pointer (some ⟨g, off, none⟩))
  | fptr (cells : List D) (ad : Addr) (vals : Nat → Value) (hA : ¬ Y ad.block ∧ ad.block < w.heap.size) (hv : ∀ (i : Nat) (x : D), cells[i]? = some x → w.cell? (ad.add i) = some (vals i))
      (hr : ∀ (i : Nat) (x : D), cells[i]? = some x → DR Y w x (vals i)) : AVR Y w (.fptr cells) (.pointer (some ad))
  | own (g off len cap : Nat) : AVR Y w (.own g off len cap) (.slice (some ⟨g, off, none⟩) len cap)
  | fn (f : Fn) (cap : List AV) (vs : List Value) (hl : vs.length = cap.length) (h : ∀ (i : Nat) (c : AV) (v : Value), cap[i]? = some c → vs[i]? = some v → AVR Y w c v) : AVR Y w (.fn f cap) (.func f #[] vs.toArray)
  | agg (cells : List AV) (vs : List Value) (hl : vs.length = cells.length) (h : ∀ (i : Nat) (c : AV) (v : Value), cells[i]? = some c → vs[i]? = some v → AVR Y w c v) : AVR Y w (.agg cells) (.agg vs.toArray)
  | tup (cells : List AV) (vs : List Value) (hl : vs.length = cells.length) (h : ∀ (i : Nat) (c : AV) (v : Value), cells[i]? = some c → vs[i]? = some v → AVR Y w c v) : AVR Y w (.tup cells) (.tuple vs.toArray)
  | junk (v : Value) : AVR Y w .junk v

/-- Lists of values. -/
def AVs (Y : Nat → Prop) (w : World) (l : List AV) (vs : List Value) : Prop := vs.length = l.length ∧ ∀ (i : Nat) (c : AV) (v : Value), l[i]? = some c → vs[i]? = some v → AVR Y w c v

theorem AVs.nil {Y : Nat → Prop} {w : World} : AVs Y w [] [] := ⟨rfl, fun i c v h => by simp at h⟩
theorem AVs.cons {Y : Nat → Prop} {w : World} {c : AV} {v : Value} {l : List AV} {vs : List Value} (h : AVR Y w c v) (k : AVs Y w l vs) : AVs Y w (c :: l) (v :: vs) := by
  refine ⟨by simp [k.1], fun i c' v' hc hv => ?_⟩
  cases i with
  | zero => simp at hc hv; subst hc; subst hv; exact h
  | succ i => simp at hc hv; exact k.2 i c' v' hc hv
theorem AVs.nil_inv {Y : Nat → Prop} {w : World} {vs : List Value} (h : AVs Y w [] vs) : vs = [] := List.eq_nil_of_length_eq_zero (by simpa using h.1)
theorem AVs.cons_inv {Y : Nat → Prop} {w : World} {c : AV} {l : List AV} {vs : List Value} (h : AVs Y w (c :: l) vs) : ∃ v r, vs = v :: r ∧ AVR Y w c v ∧ AVs Y w l r := by
  cases vs with
  | nil => have := h.1; simp at this
  | cons v r => exact ⟨v, r, rfl, h.2 0 c v (by simp) (by simp), by have := h.1; simpa using this, fun i c' v' hc hv => h.2 (i + 1) c' v' (by simpa using hc) (by simpa using hv)⟩
theorem AVs.append {Y : Nat → Prop} {w : World} {l l' : List AV} {vs vs' : List Value} (h : AVs Y w l vs) (k : AVs Y w l' vs') : AVs Y w (l ++ l') (vs ++ vs') := by
  refine ⟨by simp [h.1, k.1], fun i c v hc hv => ?_⟩
  rcases Nat.lt_or_ge i l.length with hi | hi
  · rw [List.getElem?_append_left hi] at hc
    rw [List.getElem?_append_left (by rw [h.1]; exact hi)] at hv
    exact h.2 i c v hc hv
  · rw [List.getElem?_append_right hi] at hc
    rw [List.getElem?_append_right (by rw [h.1]; exact hi), h.1] at hv
    exact k.2 _ c v hc hv

/-- What w bears outside of Y lies as it lay in w', outside of Y'. -/
def Keep (Y : Nat → Prop) (w : World) (Y' : Nat → Prop) (w' : World) : Prop := w.heap.size ≤ w'.heap.size ∧ ∀ i, i < w.heap.size → ¬ Y i → ¬ Y' i ∧ w'.heap[i]? = w.heap[i]?

theorem Keep.cell {Y Y' : Nat → Prop} {w w' : World} (h : Keep Y w Y' w') {a : Addr} (hl : a.block < w.heap.size) (hY : ¬ Y a.block) : w'.cell? a = w.cell? a := World.cell?_of_block (h.2 _ hl hY).2

theorem add_block (a : Addr) (n : Nat) : (a.add n).block = a.block := by unfold Addr.add; split <;> rfl

theorem DR.mono {Y Y' : Nat → Prop} {w w' : World} (k : Keep Y w Y' w') {x : D} {v : Value} (h : DR Y w x v) : DR Y' w' x v := by
  induction h with
  | b x => exact .b x
  | i q n => exact .i q n
  | s x => exact .s x
  | v x h => exact .v x h
  | sl xs A c sz ad vals hc hm hsz hA hv hr ih =>
    refine .sl xs A c sz ad vals hc hm hsz (fun h0 => ?_) (fun j i r x hj hi => ?_) ih
    · obtain ⟨h1, h2, h3⟩ := hA h0
      exact ⟨h1, (k.2 _ h3 h2).1, Nat.lt_of_lt_of_le h3 k.1⟩
    · have h0 : 0 < xs.length := by
        have := (List.getElem?_eq_some_iff.1 hj).1
        omega
      obtain ⟨h1, h2, h3⟩ := hA h0
      rw [k.cell (by rw [add_block]; exact h3) (by rw [add_block]; exact h2)]
      exact hv j i r x hj hi
  | fn f caps ads vals hA hv hr ih =>
    refine .fn f caps ads vals (fun j hj => ?_) (fun j i r x hj hi => ?_) ih
    · obtain ⟨h2, h3⟩ := hA j hj
      exact ⟨(k.2 _ h3 h2).1, Nat.lt_of_lt_of_le h3 k.1⟩
    · obtain ⟨h2, h3⟩ := hA j (List.getElem?_eq_some_iff.1 hj).1
      rw [k.cell (by rw [add_block]; exact h3) (by rw [add_block]; exact h2)]
      exact hv j i r x hj hi

theorem AVR.mono {Y Y' : Nat → Prop} {w w' : World} (k : Keep Y w Y' w') {x : AV} {v : Value} (h : AVR Y w x v) : AVR Y' w' x v := by
  induction h with
  | d h => exact .d (h.mono k)
  | nil => exact .nil
  | ptr g off => exact .ptr g off
  | fptr cells ad vals hA hv hr =>
    refine .fptr cells ad vals ⟨(k.2 _ hA.2 hA.1).1, Nat.lt_of_lt_of_le hA.2 k.1⟩ (fun i x hi => ?_) (fun i x hi => (hr i x hi).mono k)
    rw [k.cell (by rw [add_block]; exact hA.2) (by rw [add_block]; exact hA.1)]
    exact hv i x hi
  | own g off len cap => exact .own g off len cap
  | fn f cap vs hl _ ih => exact .fn f cap vs hl ih
  | agg cells vs hl _ ih => exact .agg cells vs hl ih
  | tup cells vs hl _ ih => exact .tup cells vs hl ih
  | junk v => exact .junk v
theorem AVs.mono {Y Y' : Nat → Prop} {w w' : World} (k : Keep Y w Y' w') {l : List AV} {vs : List Value} (h : AVs Y w l vs) : AVs Y' w' l vs := ⟨h.1, fun i c v hc hv => (h.2 i c v hc hv).mono k⟩

/-! ### heaps -/
def look : List (Nat × AV) → Nat → AV
  | [], _ => .junk
  | (k, v) :: r, t => match Nat.beq k t with
    | true => v
    | false => look r t

inductive Blk where
  | var (e : TypeId) (cells : List AV)
  | arr (e : TypeId) (size : Nat) (rows : List (List AV)) (cap : Nat)
  | obj (o : Obj)
  /-- The record of a loop over a function; what its temporaries are. -/
  | lp (r : Loop) (n : Nat) (tm : List (Nat × AV))

abbrev H := List (Nat × Blk)
def keys (h : H) : List Nat := h.map Prod.fst
def Xh (X : Nat → Prop) (h : H) : Nat → Prop := fun g => X g ∨ g ∈ keys h

def BlkR (Y : Nat → Prop) (w : World) (g : Nat) : Blk → Prop
  | .var e cells => ∃ cs : List Value, w.heap[g]? = some (.cells cs.toArray e (0, 0)) ∧ AVs Y w cells cs
  | .arr e size rows cap => ∃ cs : List Value, w.heap[g]? = some (.cells cs.toArray e (0, 0)) ∧ cs.length = cap * size ∧ cap ≤ maxLen ∧ rows.length ≤ cap ∧ (∀ r, r ∈ rows → r.length = size) ∧ AVs Y w rows.flatten (cs.take (rows.length * size))
  | .obj o => w.heap[g]? = some o
  | .lp r n tm => ∃ tmps : Array Value, w.heap[g]? = some (.loop { r with tmps := tmps }) ∧ tmps.size = n ∧ ∀ t, AVR Y w (look tm t) (tmps.getD t undef)

theorem BlkR.mono {Y Y' : Nat → Prop} {w w' : World} {g : Nat} {b : Blk} (k : Keep Y w Y' w') (hg : w'.heap[g]? = w.heap[g]?) (h : BlkR Y w g b) : BlkR Y' w' g b := by
  cases b with
  | var e cells =>
    obtain ⟨cs, h1, h2⟩ := h
    exact ⟨cs, hg.trans h1, h2.mono k⟩
  | arr e size rows cap =>
    obtain ⟨cs, h1, h2, h3, h4, h5, h6⟩ := h
    exact ⟨cs, hg.trans h1, h2, h3, h4, h5, h6.mono k⟩
  | obj o => exact hg.trans h
  | lp r n tm =>
    obtain ⟨tmps, h1, h2, h3⟩ := h
    exact ⟨tmps, hg.trans h1, h2, fun t => (h3 t).mono k⟩

/-- The tables of unicode/utf8 lie in the blocks of their variables. -/
def GOK (Y : Nat → Prop) (w : World) : Prop := ¬ Y 1 ∧ ¬ Y 2 ∧ 1 < w.heap.size ∧ 2 < w.heap.size ∧ Lib.Utf8Tabs 1 2 w
theorem GOK.mono {Y Y' : Nat → Prop} {w w' : World} (k : Keep Y w Y' w') (h : GOK Y w) : GOK Y' w' := by
  obtain ⟨h1, h2, h3, h4, h5, h6⟩ := h
  have e1 : ∀ c, w'.cell? ⟨1, c, none⟩ = w.cell? ⟨1, c, none⟩ := fun c => k.cell (a := ⟨1, c, none⟩) h3 h1
  have e2 : ∀ c, w'.cell? ⟨2, c, none⟩ = w.cell? ⟨2, c, none⟩ := fun c => k.cell (a := ⟨2, c, none⟩) h4 h2
  refine ⟨(k.2 _ h3 h1).1, (k.2 _ h4 h2).1, Nat.lt_of_lt_of_le h3 k.1, Nat.lt_of_lt_of_le h4 k.1, fun c hc => by rw [e1]; exact h5 c hc, fun i hi => by rw [e2, e2]; exact h6 i hi⟩
structure Rel (X : Nat → Prop) (w : World) (h : H) : Prop where
  nodup : (keys h).Nodup
  notX : ∀ g, g ∈ keys h → ¬ X g
  lt : ∀ g, g ∈ keys h → g < w.heap.size
  xlt : ∀ g, X g → g < w.heap.size
  blk : ∀ g b, (g, b) ∈ h → BlkR (Xh X h) w g b
  glob : GOK (Xh X h) w

/-- From one world to a later one: what is not among the heap's own blocks lies. -/
structure Step (h h' : H) (w w' : World) : Prop where
  os : w'.os = w.os
  tape : w'.tape = w.tape
  output : w'.output = w.output
  size : w.heap.size ≤ w'.heap.size
  keep : ∀ i, i < w.heap.size → i ∉ keys h → w'.heap[i]? = w.heap[i]?
  new : ∀ g, g ∈ keys h' → g ∈ keys h ∨ w.heap.size ≤ g

theorem Step.refl (h : H) (w : World) : Step h h w w := ⟨rfl, rfl, rfl, Nat.le_refl _, fun _ _ _ => rfl, fun _ hg => .inl hg⟩
theorem Step.trans {h h1 h2 : H} {w w1 w2 : World} (a : Step h h1 w w1) (b : Step h1 h2 w1 w2) : Step h h2 w w2 :=
  ⟨b.os.trans a.os, b.tape.trans a.tape, b.output.trans a.output, Nat.le_trans a.size b.size,
   fun i hi hk => (b.keep i (Nat.lt_of_lt_of_le hi a.size) (fun hm => (a.new i hm).elim hk (fun h => by omega))).trans (a.keep i hi hk),
   fun g hg => (b.new g hg).elim (fun h => a.new g h) (fun h => .inr (Nat.le_trans a.size h))⟩
/-- Blocks may be forgotten. -/
theorem Step.drop {h h1 h2 : H} {w w1 : World} (a : Step h h1 w w1) (hs : ∀ g, g ∈ keys h2 → g ∈ keys h1) : Step h h2 w w1 := ⟨a.os, a.tape, a.output, a.size, a.keep, fun g hg => a.new g (hs g hg)⟩
/-- What lies outside of X and of the heap's blocks lies on, outside of X and of the later heap's. -/
theorem Step.keeps {X : Nat → Prop} {h h' : H} {w w' : World} (a : Step h h' w w') : Keep (Xh X h) w (Xh X h') w' := by
  refine ⟨a.size, fun i hi hn => ⟨fun hx => ?_, a.keep i hi (fun hk => hn (.inr hk))⟩⟩
  rcases hx with hx | hx
  · exact hn (.inl hx)
  · rcases a.new i hx with hk | hk
    · exact hn (.inr hk)
    · omega

/-! ### states -/
structure St where
  n : Nat
  tm : List (Nat × AV)
  h : H
  ds : List Nat

structure SR (X : Nat → Prop) (w : World) (s : St) (a : Act) : Prop where
  rel : Rel X w s.h
  size : a.tmps.size = s.n
  tm : ∀ t, AVR (Xh X s.h) w (look s.tm t) (a.tmps.getD t undef)
  ds : a.defers = s.ds.map (fun r => ({ target := .collected r, args := #[] } : Deferred))

/-- A constant. -/
def constAV : Value → AV
  | .bool x => .d (.b x)
  | .int k n => .d (.i k n)
  | .string s => .d (.s s)
  | .slice none 0 0 => .nil
  | _ => .junk
def St.ev (s : St) : Operand → AV
  | .tmp t => look s.tm t
  | .const v => constAV v
  | .global _ => .junk
  | .func f => .fn (.func f) []
theorem constAV_spec (Y : Nat → Prop) (w : World) (v : Value) : AVR Y w (constAV v) v := by
  unfold constAV
  split
  · exact .d (.b _)
  · exact .d (.i _ _)
  · exact .d (.s _)
  · exact .nil
  · exact .junk _
theorem SR.ev {X : Nat → Prop} {w : World} {s : St} {a : Act} (h : SR X w s a) (x : Operand) : AVR (Xh X s.h) w (s.ev x) (a.eval x) := by
  cases x with
  | tmp t => exact h.tm t
  | const v => exact constAV_spec _ _ v
  | global g => exact .junk _
  | func f => exact .fn (.func f) [] [] rfl (fun i c v hc => by simp at hc)

def St.put (s : St) (dst : Option Tmp) (v : AV) : St :=
  match dst with
  | some d => { s with tm := (d, v) :: s.tm }
  | none => s

theorem look_cons (k : Nat) (v : AV) (r : List (Nat × AV)) (t : Nat) : look ((k, v) :: r) t = if k = t then v else look r t := by
  by_cases h : k = t
  · subst h
    show (match Nat.beq k k with | true => v | false => look r k) = _
    rw [show Nat.beq k k = true from Nat.beq_refl k, if_pos rfl]
  · show (match Nat.beq k t with | true => v | false => look r t) = _
    have e : Nat.beq k t = false := by
      cases hb : Nat.beq k t with
      | false => rfl
      | true => exact absurd (Nat.eq_of_beq_eq_true hb) h
    rw [e, if_neg h]

theorem SR.mk_put {X : Nat → Prop} {w : World} {s : St} {a : Act} {h' : H} {w' : World} {dst : Option Tmp} {v : Value} {av : AV} (h : SR X w s a) (hr : Rel X w' h') (st : Step s.h h' w w')
    (hd : ∀ d, dst = some d → d < s.n) (hv : AVR (Xh X h') w' av v) : SR X w' ({ s with h := h' }.put dst av) (a.put dst v) := by
  cases dst with
  | none => exact ⟨hr, h.size, fun t => (h.tm t).mono st.keeps, h.ds⟩
  | some d =>
    refine ⟨hr, by simpa [Act.put, St.put] using h.size, fun t => ?_, h.ds⟩
    have hlt : d < a.tmps.size := by rw [h.size]; exact hd d rfl
    show AVR (Xh X h') w' (look ((d, av) :: s.tm) t) ((a.tmps.setIfInBounds d v).getD t undef)
    rw [look_cons]
    by_cases hdt : d = t
    · subst hdt
      rw [if_pos rfl]
      simpa [Array.getD_eq_getD_getElem?, hlt] using hv
    · rw [if_neg hdt]
      have := (h.tm t).mono (st.keeps (X := X))
      simpa [Array.getD_eq_getD_getElem?, Array.getElem?_setIfInBounds, hdt] using this

/-! ### the triple -/
def AF (ro : Option Nat) : Fence := { Fence.wide with round := ro }
theorem AF_fn (ro : Option Nat) (f : FuncId) : (AF ro).fn f := trivial
theorem AF_room (ro : Option Nat) (n : Nat) : (AF ro).room n := fun _ h => by simp [AF, Fence.wide] at h
theorem AF_depth (ro : Option Nat) (k : Nat) : (AF ro).depth.isSome = true → 1 ≤ k := fun h => by simp [AF, Fence.wide] at h

def postA (X : Nat → Prop) (s : St) (w : World) (Q : Exit → St → Prop) (e : Exit) (a' : Act) (w' : World) : Prop := ∃ s', Q e s' ∧ SR X w' s' a' ∧ Step s.h s'.h w w'
def awp (ro : Option Nat) (P : Program) (c : Code) (Q : Exit → St → Prop) (s : St) : Prop :=
  ∀ (X : Nat → Prop) (w : World) (a : Act), SR X w s a → c.wpIn (AF ro) 0 P (postA X s w Q) a w

def thenA (K : St → Prop) (Q : Exit → St → Prop) : Exit → St → Prop
  | .normal, s => K s
  | e, s => Q e s

section rules
variable {ro : Option Nat} {P : Program} {Q : Exit → St → Prop} {s : St}

theorem awp_mono {c : Code} {Q' : Exit → St → Prop} (h : awp ro P c Q s) (hq : ∀ e s, Q e s → Q' e s) : awp ro P c Q' s :=
  fun X w a hs => wpIn_mono (h X w a hs) fun e a' w' ⟨s', q, r⟩ => ⟨s', hq _ _ q, r⟩
theorem awp_skip (h : Q .normal s) : awp ro P .skip Q s := fun X w a hs => wpIn_skip ⟨s, h, hs, Step.refl _ _⟩
theorem awp_exit {id : Nat} (h : Q (.exit id) s) : awp ro P (.exit id) Q s := fun X w a hs => wpIn_exit ⟨s, h, hs, Step.refl _ _⟩
theorem awp_ret (h : Q .ret s) : awp ro P .ret Q s := fun X w a hs => wpIn_ret ⟨s, h, hs, Step.refl _ _⟩
theorem awp_seq {x y : Code} (h : awp ro P x (thenA (awp ro P y Q) Q) s) : awp ro P (.seq x y) Q s := by
  intro X w a hs
  refine wpIn_seq (wpIn_mono (h X w a hs) ?_)
  rintro e a' w' ⟨s', q, r, st⟩
  cases e with
  | normal => exact wpIn_mono (q X w' a' r) fun e a2 w2 ⟨s2, q2, r2, st2⟩ => ⟨s2, q2, r2, st.trans st2⟩
  | exit id => exact ⟨s', q, r, st⟩
  | goto l => exact ⟨s', q, r, st⟩
  | ret => exact ⟨s', q, r, st⟩
  | panic c => exact ⟨s', q, r, st⟩
  | outgrown => exact ⟨s', q, r, st⟩
theorem awp_cond {c : Operand} {x y : Code} {t : Bool} (hc : s.ev c = .d (.b t)) (h1 : t = true → awp ro P x Q s) (h2 : t = false → awp ro P y Q s) : awp ro P (.cond c x y) Q s := by
  intro X w a hs
  have hv := hs.ev c
  rw [hc] at hv
  have he : a.eval c = .bool t := by
    generalize a.eval c = v at hv
    cases hv with | d h => cases h; rfl
  exact wpIn_cond_split he (fun ht => h1 ht X w a hs) (fun ht => h2 ht X w a hs)
def inBlockA (id : Nat) (Q : Exit → St → Prop) : Exit → St → Prop
  | .exit id', s => match Nat.beq id' id with
    | true => Q .normal s
    | false => Q (.exit id') s
  | e, s => Q e s
theorem awp_block {id : Nat} {c : Code} (h : awp ro P c (inBlockA id Q) s) : awp ro P (.block id c) Q s := by
  intro X w a hs
  refine wpIn_block (wpIn_mono (h X w a hs) ?_)
  rintro e a' w' ⟨s', q, r, st⟩
  cases e with
  | exit id' =>
    simp only [Exit.inBlock, inBlockA] at q ⊢
    by_cases he : id' = id
    · rw [if_pos he]
      subst he
      rw [Nat.beq_refl] at q
      exact ⟨s', q, r, st⟩
    · rw [if_neg he]
      have e : Nat.beq id' id = false := by
        cases hb : Nat.beq id' id with
        | false => rfl
        | true => exact absurd (Nat.eq_of_beq_eq_true hb) he
      rw [e] at q
      exact ⟨s', q, r, st⟩
  | normal => exact ⟨s', q, r, st⟩
  | goto l => exact ⟨s', q, r, st⟩
  | ret => exact ⟨s', q, r, st⟩
  | panic c => exact ⟨s', q, r, st⟩
  | outgrown => exact ⟨s', q, r, st⟩

theorem wpIn_loop_ghost {F : Fence} {n : Nat} {Q : Exit → Act → World → Prop} {a : Act} {w : World} {c : Code} (I : Nat → Act → World → Prop) (n₀ : Nat) (h₀ : I n₀ a w)
    (round : ∀ n' a w, I n' a w → c.wpIn F n P (Exit.then (fun a' w' => ∃ m, m < n' ∧ I m a' w') Q) a w) : (Code.loop c).wpIn F n P Q a w := by
  refine wpIn_loop (fun a w => ∃ n, I n a w) (fun a w => leastOf (fun n => I n a w)) ⟨n₀, h₀⟩ ?_
  intro a w hI
  refine wpIn_mono (round _ a w (leastOf_spec hI).1) ?_
  intro e a' w' hq
  cases e with
  | normal =>
    obtain ⟨n', hlt, hI'⟩ := hq
    exact show (∃ n, I n a' w') ∧ leastOf (fun n => I n a' w') < leastOf (fun n => I n a w) from ⟨⟨n', hI'⟩, Nat.lt_of_le_of_lt ((leastOf_spec ⟨n', hI'⟩).2 n' hI') hlt⟩
  | exit id => exact hq
  | goto l => exact hq
  | ret => exact hq
  | panic ch => exact hq
  | outgrown => exact hq

/-- A loop: an invariant that bears a number; each round lowers it. -/
theorem awp_loop {c : Code} (I : Nat → St → Prop) (n₀ : Nat) (h₀ : I n₀ s) (round : ∀ n s', I n s' → awp ro P c (thenA (fun s2 => ∃ m, m < n ∧ I m s2) Q) s') : awp ro P (.loop c) Q s := by
  intro X w a hs
  refine wpIn_loop_ghost (fun n a' w' => ∃ s', I n s' ∧ SR X w' s' a' ∧ Step s.h s'.h w w') n₀ ⟨s, h₀, hs, Step.refl _ _⟩ ?_
  rintro n a' w' ⟨s', hI, hs', st⟩
  refine wpIn_mono (round n s' hI X w' a' hs') ?_
  rintro e a2 w2 ⟨s2, q, r, st2⟩
  cases e with
  | normal => obtain ⟨m, hm, hI2⟩ := q; exact ⟨m, hm, s2, hI2, r, st.trans st2⟩
  | exit id => exact ⟨s2, q, r, st.trans st2⟩
  | goto l => exact ⟨s2, q, r, st.trans st2⟩
  | ret => exact ⟨s2, q, r, st.trans st2⟩
  | panic ch => exact ⟨s2, q, r, st.trans st2⟩
  | outgrown => exact ⟨s2, q, r, st.trans st2⟩

/-! ### forgetting -/
/-- What s' says s says. -/
def Weak (s s' : St) : Prop := ∀ X w a, SR X w s a → SR X w s' a ∧ Step s.h s'.h w w
theorem Weak.refl (s : St) : Weak s s := fun X w a h => ⟨h, Step.refl _ _⟩
theorem Weak.trans {a b c : St} (h : Weak a b) (k : Weak b c) : Weak a c := fun X w x hs => let ⟨h1, s1⟩ := h X w x hs; let ⟨h2, s2⟩ := k X w x h1; ⟨h2, s1.trans s2⟩
theorem awp_weak {c : Code} {s' : St} (hw : Weak s s') (h : awp ro P c Q s') : awp ro P c Q s := by
  intro X w a hs
  obtain ⟨h1, st⟩ := hw X w a hs
  exact wpIn_mono (h X w a h1) fun e a' w' ⟨s2, q, r, st2⟩ => ⟨s2, q, r, st.trans st2⟩
/-- Slots forgotten. -/
inductive Sub : List (Nat × AV) → List (Nat × AV) → Prop where
  | nil {tm : List (Nat × AV)} : Sub tm []
  | cons {tm l : List (Nat × AV)} {t : Nat} {v : AV} (h : look tm t = v) (k : Sub tm l) : Sub tm ((t, v) :: l)
theorem Sub.look {tm l : List (Nat × AV)} (h : Sub tm l) (t : Nat) : look l t = .junk ∨ look l t = look tm t := by
  induction h with
  | nil => exact .inl rfl
  | cons h k ih =>
    rename_i l t' v
    rw [look_cons]
    by_cases e : t' = t
    · subst e; rw [if_pos rfl]; exact .inr h.symm
    · rw [if_neg e]; exact ih
theorem weak_tm {n : Nat} {tm l : List (Nat × AV)} {h : H} {ds : List Nat} (k : Sub tm l) : Weak ⟨n, tm, h, ds⟩ ⟨n, l, h, ds⟩ := by
  intro X w a hs
  refine ⟨⟨hs.rel, hs.size, fun t => ?_, hs.ds⟩, Step.refl _ _⟩
  rcases k.look t with e | e
  · show AVR _ _ (Go.Proofs.YtjnkbmodcddbkaaDoor.look l t) _
    rw [e]; exact .junk _
  · show AVR _ _ (Go.Proofs.YtjnkbmodcddbkaaDoor.look l t) _
    rw [e]; exact hs.tm t
/-- Blocks forgotten. -/
theorem Rel.drop {X : Nat → Prop} {w : World} {h h' : H} (r : Rel X w h) (hs : List.Sublist h' h) : Rel X w h' := by
  have hk : List.Sublist (keys h') (keys h) := hs.map _
  have hsub : ∀ g, g ∈ keys h' → g ∈ keys h := fun g hg => hk.subset hg
  refine ⟨r.nodup.sublist hk, fun g hg => r.notX g (hsub g hg), fun g hg => r.lt g (hsub g hg), r.xlt, fun g b hb => ?_, r.glob.mono ⟨Nat.le_refl _, fun i hi hn => ⟨fun hx => hn (hx.imp id (hsub i)), rfl⟩⟩⟩
  exact (r.blk g b (hs.subset hb)).mono ⟨Nat.le_refl _, fun i hi hn => ⟨fun hx => hn (hx.imp id (hsub i)), rfl⟩⟩ rfl
theorem SR.drop {X : Nat → Prop} {w : World} {n : Nat} {tm : List (Nat × AV)} {h h' : H} {ds : List Nat} {a : Act} (hs : SR X w ⟨n, tm, h, ds⟩ a) (hh : List.Sublist h' h) : SR X w ⟨n, tm, h', ds⟩ a := by
  have hk : List.Sublist (keys h') (keys h) := hh.map _
  exact ⟨hs.rel.drop hh, hs.size, fun t => (hs.tm t).mono ⟨Nat.le_refl _, fun i hi hn => ⟨fun hx => hn (hx.imp id (fun hm => hk.subset hm)), rfl⟩⟩, hs.ds⟩
theorem weak_drop {n : Nat} {tm : List (Nat × AV)} {h h' : H} {ds : List Nat} (hh : List.Sublist h' h) : Weak ⟨n, tm, h, ds⟩ ⟨n, tm, h', ds⟩ := fun X w a hs =>
  ⟨hs.drop hh, (Step.refl _ _).drop (fun g hg => (hh.map Prod.fst).subset hg)⟩
end rules
end Go.Proofs.YtjnkbmodcddbkaaDoor
