/- A logic of abstract states. Part 3: operations that turn the heap; regions; calls; what a function hands back. -/
import Derived.Test.YtjnkbmodcddbkaaDoorAw2
set_option linter.unusedVariables false
set_option linter.unusedSimpArgs false
namespace Go.Proofs.YtjnkbmodcddbkaaDoor
open Go Go.RowKit

def splice {α : Type} (l : List α) (off : Nat) (new : List α) : List α := l.take off ++ new ++ l.drop (off + new.length)

theorem splice_at {α : Type} {l new : List α} {off : Nat} (h : off + new.length ≤ l.length) (k : Nat) : (splice l off new)[k]? = if k < off then l[k]? else if k < off + new.length then new[k - off]? else l[k]? := by
  unfold splice
  have h1 : (l.take off).length = off := by rw [List.length_take]; omega
  by_cases hk1 : k < off
  · rw [if_pos hk1, List.append_assoc, List.getElem?_append_left (by omega), List.getElem?_take, if_pos hk1]
  · rw [if_neg hk1]
    by_cases hk2 : k < off + new.length
    · rw [if_pos hk2, List.getElem?_append_left (by rw [List.length_append]; omega), List.getElem?_append_right (by omega), h1]
    · rw [if_neg hk2, List.getElem?_append_right (by rw [List.length_append]; omega), List.length_append, h1, List.getElem?_drop]
      congr 1
      omega
theorem take_splice {α : Type} {l new : List α} {off n : Nat} (h : off + new.length ≤ n) (hn : n ≤ l.length) : (splice l off new).take n = splice (l.take n) off new := by
  apply List.ext_getElem?
  intro k
  rw [List.getElem?_take, splice_at (by omega), splice_at (by rw [List.length_take]; omega), List.getElem?_take]
  by_cases hk : k < n
  · simp only [if_pos hk]
  · rw [if_neg hk, if_neg (by omega), if_neg (by omega), if_neg hk]

theorem AVs.take {Y : Nat → Prop} {w : World} {l : List AV} {vs : List Value} (h : AVs Y w l vs) (n : Nat) : AVs Y w (l.take n) (vs.take n) := by
  refine ⟨by simp [h.1], fun i c v hc hv => ?_⟩
  rw [List.getElem?_take] at hc hv
  split at hc
  · rename_i hi
    rw [if_pos hi] at hv
    exact h.2 i c v hc hv
  · cases hc
theorem AVs.drop {Y : Nat → Prop} {w : World} {l : List AV} {vs : List Value} (h : AVs Y w l vs) (n : Nat) : AVs Y w (l.drop n) (vs.drop n) := by
  refine ⟨by simp [h.1], fun i c v hc hv => ?_⟩
  rw [List.getElem?_drop] at hc hv
  exact h.2 _ c v hc hv
theorem AVs.splice {Y : Nat → Prop} {w : World} {l m : List AV} {vs us : List Value} (h : AVs Y w l vs) (k : AVs Y w m us) (off : Nat) : AVs Y w (splice l off m) (splice vs off us) := by
  unfold Go.Proofs.YtjnkbmodcddbkaaDoor.splice
  rw [k.1]
  exact ((h.take off).append k).append (h.drop _)

/-! ### operations of whatever outcome -/
def postK (X : Nat → Prop) (s : St) (w : World) (K : St → Prop) (a' : Act) (w' : World) : Prop := ∃ s', K s' ∧ SR X w' s' a' ∧ Step s.h s'.h w w'
def OpA (ro : Option Nat) (P : Program) (s : St) (o : Oper) (K : St → Prop) : Prop :=
  ∀ (X : Nat → Prop) (w : World) (a : Act) (Q' : Exit → Act → World → Prop), SR X w s a → o.wpIn (AF ro) 0 P a w (postK X s w K) Q'

section opa
variable {ro : Option Nat} {P : Program} {s : St} {o : Oper} {K : St → Prop} {av : AV}

theorem OpA.mono {K' : St → Prop} (h : OpA ro P s o K) (hk : ∀ s, K s → K' s) : OpA ro P s o K' := fun X w a Q' hs => Oper.wpIn_mono (fun a' w' ⟨s', q, r⟩ => ⟨s', hk _ q, r⟩) (h X w a Q' hs)

theorem opa_v (hd : ∀ d, o.dst = some d → d < s.n) (hv : OpV ro P s.h s.ev o av) (hk : K (s.put o.dst av)) : OpA ro P s o K := by
  intro X w a Q' hs
  refine hv X w a _ Q' hs.rel (fun x _ => hs.ev x) (fun v w' hA hr st => ?_)
  have e : ({ s with h := s.h } : St) = s := rfl
  refine ⟨s.put o.dst av, hk, ?_, ?_⟩
  · have := hs.mk_put hr st hd hA; rwa [e] at this
  · have : (s.put o.dst av).h = s.h := by unfold St.put; split <;> rfl
    rw [this]; exact st
theorem put_h (s : St) (d : Option Tmp) (v : AV) : (s.put d v).h = s.h := by unfold St.put; split <;> rfl
theorem opa_val (hnd : ∀ c, o.op ≠ .defer c) (hd : ∀ d, o.dst = some d → d < s.n)
    (h : ∀ (X : Nat → Prop) (w : World) (a : Act), SR X w s a → ∃ v w' h' av, (execOp a.eval o).run P w = .ok (.value v) w' ∧ Rel X w' h' ∧ Step s.h h' w w' ∧ AVR (Xh X h') w' av v ∧ K (({ s with h := h' } : St).put o.dst av)) : OpA ro P s o K := by
  intro X w a Q' hs
  obtain ⟨v, w', h', av, hrun, hr, st, hA, hk⟩ := h X w a hs
  refine ⟨fun _ _ => trivial, ?_⟩
  rw [semAt_any hnd, hrun]
  exact ⟨_, hk, hs.mk_put hr st hd hA, by rw [put_h]; exact st⟩
theorem opa_skip (hnd : ∀ c, o.op ≠ .defer c) (hdst : o.dst = none)
    (h : ∀ (X : Nat → Prop) (w : World) (a : Act), SR X w s a → ∃ w' h', (execOp a.eval o).run P w = .ok .skip w' ∧ Rel X w' h' ∧ Step s.h h' w w' ∧ K { s with h := h' }) : OpA ro P s o K := by
  intro X w a Q' hs
  obtain ⟨w', h', hrun, hr, st, hk⟩ := h X w a hs
  refine ⟨fun _ _ => trivial, ?_⟩
  rw [semAt_any hnd, hrun]
  show postK X s w K (a.put o.dst undef) w'
  rw [hdst]
  exact ⟨_, hk, ⟨hr, hs.size, fun t => (hs.tm t).mono st.keeps, hs.ds⟩, st⟩

/-! #### a new variable -/
theorem run_newVar (t : TypeId) (v : Value) (w : World) : (newVar t v).run P w = .ok ⟨w.heap.size, 0, none⟩ (w.alloc (.cells v.cells t)) := rfl
theorem alloc_new {X : Nat → Prop} {w : World} {h : H} {e : TypeId} {vs : List Value} {cells : List AV} (r : Rel X w h) (hc : AVs (Xh X h) w cells vs) :
    Rel X (w.alloc (.cells vs.toArray e)) ((w.heap.size, .var e cells) :: h) ∧ Step h ((w.heap.size, .var e cells) :: h) w (w.alloc (.cells vs.toArray e)) := by
  refine r.cons rfl rfl rfl (by simp) (fun k hk => Below.heap_alloc _ _ _ hk) ⟨Nat.le_refl _, by simp⟩ (fun hkeep => ?_)
  exact ⟨vs, heap_alloc_new w _, hc.mono hkeep⟩
theorem opa_alloc {e : TypeId} {z : Value} {cells : List AV} (ho : o.op = .alloc e) (hd : ∀ d, o.dst = some d → d < s.n) (hz : ∀ w, (zeroValue e).run P w = .ok z w) (hc : z.cells.toList.map constAV = cells)
    (hk : ∀ g, g ∉ keys s.h → K (({ s with h := (g, .var e cells) :: s.h } : St).put o.dst (.ptr g 0))) : OpA ro P s o K := by
  refine opa_val (by simp [ho]) hd fun X w a hs => ?_
  subst hc
  have hA : AVs (Xh X s.h) w (z.cells.toList.map constAV) z.cells.toList := ⟨by simp, fun i c v hc hv => by
    rw [List.getElem?_map, hv] at hc
    simp at hc; subst hc; exact constAV_spec _ _ v⟩
  obtain ⟨hr, st⟩ := alloc_new (e := e) hs.rel hA
  exact ⟨_, _, _, .ptr w.heap.size 0, by simp [execOp, ho, Instr.alloc, hz, run_newVar, Result.andThen], hr, st, .ptr _ _, hk _ (fun hm => by have := hs.rel.lt _ hm; omega)⟩
theorem opa_box {e : TypeId} {x : Operand} {cv : AV} (ho : o.op = .box e x) (hd : ∀ d, o.dst = some d → d < s.n) (hx : s.ev x = cv) (h1 : ∀ c, c ∈ cv.cs → c.one = true)
    (hk : ∀ g, g ∉ keys s.h → K (({ s with h := (g, .var e cv.cs) :: s.h } : St).put o.dst (.ptr g 0))) : OpA ro P s o K := by
  refine opa_val (by simp [ho]) hd fun X w a hs => ?_
  have h2 := hs.ev x
  rw [hx] at h2
  have hA := (cs_cells h2 h1).1
  obtain ⟨hr, st⟩ := alloc_new (e := e) hs.rel hA
  exact ⟨_, _, _, .ptr w.heap.size 0, by simp [execOp, ho, Instr.box, run_newVar, Result.andThen], hr, st, .ptr _ _, hk _ (fun hm => by have := hs.rel.lt _ hm; omega)⟩

/-! #### stores -/
inductive Blk.stored (b : Blk) (off : Nat) (cs : List AV) : Blk → Prop where
  | var {e : TypeId} {cells : List AV} (hb : b = .var e cells) (hl : off + cs.length ≤ cells.length) : Blk.stored b off cs (.var e (splice cells off cs))
  | arr {e : TypeId} {size : Nat} {rows : List (List AV)} {cap i j : Nat} {r : List AV} (hb : b = .arr e size rows cap) (h : rows[i]? = some r) (ho : off = i * size + j) (hl : j + cs.length ≤ r.length) :
      Blk.stored b off cs (.arr e size (rows.set i (splice r j cs)) cap)

theorem splice_len {α : Type} {l : List α} {off : Nat} {new : List α} (h : off + new.length ≤ l.length) : (splice l off new).length = l.length := by
  simp [splice]; omega
theorem flatten_set {α : Type} {rows : List (List α)} {size : Nat} (hs : ∀ r, r ∈ rows → r.length = size) : ∀ {i j : Nat} {r cs : List α}, rows[i]? = some r → j + cs.length ≤ r.length → (rows.set i (splice r j cs)).flatten = splice rows.flatten (i * size + j) cs := by
  induction rows with
  | nil => intro i j r cs h; simp at h
  | cons r0 rows ih =>
    intro i j r cs h hj
    have h0 : r0.length = size := hs r0 (by simp)
    cases i with
    | zero =>
      simp at h; subst h
      simp only [List.set_cons_zero, List.flatten_cons, Nat.zero_mul, Nat.zero_add, splice]
      rw [List.take_append_of_le_length (by omega), List.drop_append_of_le_length (by omega)]
      simp
    | succ i =>
      simp at h
      simp only [List.set_cons_succ, List.flatten_cons]
      rw [ih (fun r hr => hs r (by simp [hr])) h hj]
      simp only [splice]
      have e : (i + 1) * size + j = r0.length + (i * size + j) := by rw [h0, Nat.succ_mul]; omega
      rw [e, List.take_length_add_append, Nat.add_assoc r0.length, List.drop_length_add_append]
      simp [Nat.add_assoc]

theorem run_storeVar {t : TypeId} {n g off : Nat} {cur vs : List Value} {e : TypeId} {v : Value} {w : World} (hs : ∀ w, (sizeOf t).run P w = .ok n w) (hv : v.cells.toList = vs) (hn : vs.length = n) (h1 : ∀ u, u ∈ vs → u.oneCell' = true)
    (hg : w.heap[g]? = some (.cells cur.toArray e (0, 0))) (hl : off + vs.length ≤ cur.length) : (storeVar t ⟨g, off, none⟩ v).run P w = .ok () (w.setRow g (splice cur off vs).toArray) := by
  have hc : v.cells.size = n := by rw [← hn, ← hv]; simp
  have hst := run_storeCells_at P g off e vs 0 cur.toArray w hg (by simpa using hl) h1
  unfold storeVar
  simp only [Sem.run_bind, hs, Result.andThen_ok, hc, ne_eq, not_true_eq_false, if_false, hv]
  simpa [splice] using hst

theorem opa_store {t : TypeId} {x y : Operand} {i g off n : Nat} {b b' : Blk} {cv : AV} {cs : List AV} (ho : o.op = .store t x y) (hdst : o.dst = none) (hx : s.ev x = .ptr g off) (hy : s.ev y = cv) (hcs : cv.cs = cs) (h1 : ∀ c, c ∈ cs → c.one = true)
    (hs : ∀ w, (sizeOf t).run P w = .ok n w) (hn : cs.length = n) (hi : s.h[i]? = some (g, b)) (hb : b.stored off cs b') (hk : K { s with h := s.h.set i (g, b') }) : OpA ro P s o K := by
  refine opa_skip (by simp [ho]) hdst fun X w a hS => ?_
  have e1 := hS.ev x
  rw [hx] at e1
  have e2 := hS.ev y
  rw [hy] at e2
  obtain ⟨hA, hone⟩ := cs_cells e2 (by rw [hcs]; exact h1)
  rw [hcs] at hA
  have hB := hS.rel.blk g b (List.mem_of_getElem? hi)
  have hvl : (a.eval y).cells.toList.length = n := by rw [hA.1, hn]
  have hrunE : ∀ w', (storeVar t ⟨g, off, none⟩ (a.eval y)).run P w = .ok () w' → (execOp a.eval o).run P w = .ok .skip w' := fun w' hr => by
    simp [execOp, ho, inv_ptr e1, Instr.storeAt, Instr.sureAddr, hr, Result.andThen]
  cases hb with
  | var hb hl =>
    rename_i e cells
    subst hb
    obtain ⟨cur, hg, hcur⟩ := hB
    have hl' : off + (a.eval y).cells.toList.length ≤ cur.length := by rw [hA.1, hcur.1]; exact hl
    have hr := run_storeVar (P := P) hs rfl hvl hone hg hl'
    have hset := setRow_heap w g cur.toArray (splice cur off (a.eval y).cells.toList).toArray e (0, 0) hg
    have := hS.rel.repl (w' := w.setRow g (splice cur off (a.eval y).cells.toList).toArray) (b' := .var e (splice cells off cs)) hi rfl rfl rfl (by simp) (fun k hk hne => setRow_other w g k _ hne) (.inl rfl)
      (fun hkeep => ⟨_, hset, (hcur.splice hA off).mono hkeep⟩)
    exact ⟨_, _, hrunE _ hr, this.1, this.2, hk⟩
  | arr hb hr0 hoff hl =>
    rename_i e size rows cap i' j r
    subst hb
    obtain ⟨cur, hg, h2, h3, h4, h5, h6⟩ := hB
    have hsz : r.length = size := h5 r (List.mem_of_getElem? hr0)
    have hil : i' < rows.length := (List.getElem?_eq_some_iff.1 hr0).1
    have hin : off + cs.length ≤ rows.length * size := by
      have : (i' + 1) * size ≤ rows.length * size := Nat.mul_le_mul_right _ hil
      rw [Nat.succ_mul] at this
      omega
    have hcap : rows.length * size ≤ cap * size := Nat.mul_le_mul_right _ h4
    have hl' : off + (a.eval y).cells.toList.length ≤ cur.length := by rw [hA.1, h2]; omega
    have hr := run_storeVar (P := P) hs rfl hvl hone hg hl'
    have hset := setRow_heap w g cur.toArray (splice cur off (a.eval y).cells.toList).toArray e (0, 0) hg
    have := hS.rel.repl (w' := w.setRow g (splice cur off (a.eval y).cells.toList).toArray) (b' := .arr e size (rows.set i' (splice r j cs)) cap) hi rfl rfl rfl (by simp) (fun k hk hne => setRow_other w g k _ hne) (.inl rfl)
      (fun hkeep => ⟨_, hset, by rw [splice_len hl']; exact h2, h3, by simpa using h4, fun q hq => by
        rcases List.mem_or_eq_of_mem_set hq with hm | rfl
        · exact h5 q hm
        · rw [splice_len hl, hsz], by
        rw [flatten_set h5 hr0 hl, ← hoff, List.length_set]
        have e3 : (splice cur off (a.eval y).cells.toList).take (rows.length * size) = splice (cur.take (rows.length * size)) off (a.eval y).cells.toList := by
          exact take_splice (by rw [hA.1]; exact hin) (by rw [h2]; exact hcap)
        rw [e3]
        exact (h6.splice hA off).mono hkeep⟩)
    exact ⟨_, _, hrunE _ hr, this.1, this.2, hk⟩
end opa

/-! ### regions -/
def awpL (ro : Option Nat) (P : Program) (ops : Array Oper) (Q : Exit → St → Prop) (l : List Oper) (s : St) : Prop :=
  ∀ (X : Nat → Prop) (w : World) (a : Act), SR X w s a → wpListIn (AF ro) 0 P ops (postA X s w Q) l a w

section regions
variable {ro : Option Nat} {P : Program} {ops : Array Oper} {Q : Exit → St → Prop} {s : St} {o : Oper} {rest : List Oper} {av : AV}

theorem awp_region {id : Nat} {l : List Oper} (h : awpL ro P l.toArray Q l s) : awp ro P (.region id l.toArray false) Q s := fun X w a hs => wpIn_region_lit (h X w a hs)
theorem awpL_nil (h : Q .normal s) : awpL ro P ops Q [] s := fun X w a hs => ⟨s, h, hs, Step.refl _ _⟩
theorem awpL_weak {s' : St} {l : List Oper} (hw : Weak s s') (h : awpL ro P ops Q l s') : awpL ro P ops Q l s := by
  intro X w a hs
  obtain ⟨h1, st⟩ := hw X w a hs
  have := h X w a h1
  have key : ∀ (l : List Oper) (Q1 Q2 : Exit → Act → World → Prop) (a : Act) (w : World), (∀ e a w, Q1 e a w → Q2 e a w) → wpListIn (AF ro) 0 P ops Q1 l a w → wpListIn (AF ro) 0 P ops Q2 l a w := by
    intro l
    induction l with
    | nil => intro Q1 Q2 a w hq h; exact hq _ _ _ h
    | cons o l ih =>
      intro Q1 Q2 a w hq h
      simp only [wpListIn] at h ⊢
      split
      · rename_i hw
        rw [if_pos hw] at h
        refine ⟨h.1, ?_⟩
        have h := (Oper.wpIn_mono (fun a w => ih Q1 Q2 a w hq) h).2
        generalize (o.semAt (AF ro).round a.eval).run P w = r at *
        cases r with
        | ok x w' =>
          cases x <;> simp only [Oper.uponIn] at h ⊢ <;> first
            | exact h
            | exact ⟨h.1, CallsIn.mono h.2 (fun e w'' he => by cases e <;> first | exact he | exact hq _ _ _ he | (obtain ⟨a0, w0, q0⟩ := he; exact ⟨a0, w0, hq _ _ _ q0⟩))⟩
            | exact ⟨h.1, RoundIn.mono h.2 (fun e w'' he => by cases e <;> first | exact he | exact hq _ _ _ he | (obtain ⟨a0, w0, q0⟩ := he; exact ⟨a0, w0, hq _ _ _ q0⟩))⟩
        | halt x w' => cases x <;> simp only [Oper.uponIn] at h ⊢ <;> first | exact h | exact hq _ _ _ h
      · rename_i hw
        rw [if_neg hw] at h
        exact ⟨h.1, ih Q1 Q2 _ _ hq h.2⟩
  exact key _ _ _ _ _ (fun e a' w' ⟨s2, q, r, st2⟩ => ⟨s2, q, r, st.trans st2⟩) this

/-- Is the operation carried out? -/
inductive Runs (ops : Array Oper) (s : St) (o : Oper) : Bool → Prop where
  | plain (hg : o.guard = none) : Runs ops s o true
  | und {j t : Nat} {want : Bool} (hg : o.guard = some (j, want)) (hj : (ops[j]?).bind (·.dst) = some t) (hl : look s.tm t = .tup []) : Runs ops s o false
  | guard {j t : Nat} {want x b : Bool} (hg : o.guard = some (j, want)) (hj : (ops[j]?).bind (·.dst) = some t) (hl : look s.tm t = .d (.b x)) (hb : (x == want) = b) : Runs ops s o b
theorem Runs.spec {b : Bool} (h : Runs ops s o b) {X : Nat → Prop} {w : World} {a : Act} (hs : SR X w s a) : Region.wanted o (yielded ops a.tmps) = b := by
  cases h with
  | plain hg => simp [Region.wanted, hg]
  | und hg hj hl =>
    rename_i j t want
    have h1 := hs.tm t
    rw [hl] at h1
    obtain ⟨vs, e1, hA⟩ := inv_tup h1
    have e2 := hA.nil_inv
    subst e2
    have e3 : yielded ops a.tmps j = none := by
      unfold yielded
      rw [hj]
      simp only [Option.bind_some]
      by_cases hlt : t < a.tmps.size
      · have : a.tmps[t] = .tuple #[] := by simpa [Array.getD_eq_getD_getElem?, hlt] using e1
        simp [hlt, this]
      · simp [Array.getElem?_eq_none (Nat.le_of_not_lt hlt)]
    simp [Region.wanted, hg, e3]
  | guard hg hj hl hb =>
    rename_i j t want x
    have h1 := hs.tm t
    rw [hl] at h1
    have h2 := inv_b h1
    have h3 : a.tmps[t]? = some (.bool x) := by
      cases hq : a.tmps[t]? with
      | none => rw [Array.getD_eq_getD_getElem?, hq] at h2; cases h2
      | some v => rw [Array.getD_eq_getD_getElem?, hq] at h2; rw [show v = .bool x from h2]
    simp only [Region.wanted, hg, yielded, hj, Option.bind_some, h3]
    subst hb
    cases x <;> cases want <;> rfl

theorem awpL_op (hr : Runs ops s o true) (h : OpA ro P s o (awpL ro P ops Q rest)) : awpL ro P ops Q (o :: rest) s := by
  intro X w a hs
  refine wpListIn_step fun K hK => ?_
  rw [if_pos (hr.spec hs)]
  refine Oper.wpIn_mono (fun a' w' ⟨s', q, r, st⟩ => hK a' w' ?_) (h X w a _ hs)
  have key := q X w' a' r
  -- the postcondition is of the later state: carried back
  exact (wpListIn_mono_post (fun e a2 w2 ⟨s2, q2, r2, st2⟩ => ⟨s2, q2, r2, st.trans st2⟩) key)
where
  wpListIn_mono_post {F : Fence} {n : Nat} {Q1 Q2 : Exit → Act → World → Prop} {l : List Oper} {a : Act} {w : World} (hq : ∀ e a w, Q1 e a w → Q2 e a w) (h : wpListIn F n P ops Q1 l a w) : wpListIn F n P ops Q2 l a w := by
    induction l generalizing a w with
    | nil => exact hq _ _ _ h
    | cons o l ih =>
      simp only [wpListIn] at h ⊢
      split
      · rename_i hw
        rw [if_pos hw] at h
        refine ⟨h.1, ?_⟩
        have h := (Oper.wpIn_mono (fun a w hh => ih hh) h).2
        generalize (o.semAt F.round a.eval).run P w = r at *
        cases r with
        | ok x w' =>
          cases x <;> simp only [Oper.uponIn] at h ⊢ <;> first
            | exact h
            | exact ⟨h.1, CallsIn.mono h.2 (fun e w'' he => by cases e <;> first | exact he | exact hq _ _ _ he | (obtain ⟨a0, w0, q0⟩ := he; exact ⟨a0, w0, hq _ _ _ q0⟩))⟩
            | exact ⟨h.1, RoundIn.mono h.2 (fun e w'' he => by cases e <;> first | exact he | exact hq _ _ _ he | (obtain ⟨a0, w0, q0⟩ := he; exact ⟨a0, w0, hq _ _ _ q0⟩))⟩
        | halt x w' => cases x <;> simp only [Oper.uponIn] at h ⊢ <;> first | exact h | exact hq _ _ _ h
      · rename_i hw
        rw [if_neg hw] at h
        exact ⟨h.1, ih h.2⟩
theorem awpL_off (hr : Runs ops s o false) (hd : ∀ d, o.dst = some d → d < s.n) (h : awpL ro P ops Q rest (s.put o.dst (.tup []))) : awpL ro P ops Q (o :: rest) s := by
  intro X w a hs
  refine wpListIn_step fun K hK => ?_
  rw [if_neg (by rw [hr.spec hs]; simp)]
  refine ⟨fun _ _ => trivial, hK _ _ ?_⟩
  have e : ({ s with h := s.h } : St) = s := rfl
  have h1 := hs.mk_put (dst := o.dst) (v := undef) hs.rel (Step.refl _ _) hd (AVs.tup AVs.nil)
  rw [e] at h1
  have h2 := h X w _ h1
  have e2 : (s.put o.dst (.tup [])).h = s.h := put_h _ _ _
  unfold postA at h2
  rw [e2] at h2
  exact h2
theorem awpL_v (hr : Runs ops s o true) (hd : ∀ d, o.dst = some d → d < s.n) (hv : OpV ro P s.h s.ev o av) (h : awpL ro P ops Q rest (s.put o.dst av)) : awpL ro P ops Q (o :: rest) s := awpL_op hr (opa_v hd hv h)
end regions
end Go.Proofs.YtjnkbmodcddbkaaDoor
