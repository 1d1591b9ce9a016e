/- A logic of abstract states. Part 11: own blocks handed over to be read; functions as data; loops over functions. -/
import Derived.Test.YtjnkbmodcddbkaaDoorAw10
set_option linter.unusedVariables false
set_option linter.unusedSimpArgs false
namespace Go.Proofs.YtjnkbmodcddbkaaDoor
open Go Go.RowKit

/-- Values that name no memory. -/
def AV.scal : AV → Bool
  | .d (.b _) => true
  | .d (.i _ _) => true
  | .d (.s _) => true
  | .tup l => l.attach.all (fun ⟨v, _⟩ => v.scal)
  | _ => false
theorem scal_avr {Y Y' : Nat → Prop} {w w' : World} : ∀ {a : AV} {v : Value}, AVR Y w a v → a.scal = true → AVR Y' w' a v := by
  intro a v h
  induction h with
  | d h =>
    intro hc
    cases h with
    | b x => exact .d (.b x)
    | i k n => exact .d (.i k n)
    | s x => exact .d (.s x)
    | sl _ _ _ _ _ _ _ _ _ _ _ _ => simp [AV.scal] at hc
    | fn _ _ _ _ _ _ _ => simp [AV.scal] at hc
    | v _ _ => simp [AV.scal] at hc
  | tup cells vs hl _ ih =>
    intro hc
    refine .tup cells vs hl (fun i c v hi hv => ih i c v hi hv ?_)
    rw [AV.scal, List.all_eq_true] at hc
    exact hc ⟨c, List.mem_of_getElem? hi⟩ (List.mem_attach _ _)
  | nil => intro hc; simp [AV.scal] at hc
  | ptr _ _ => intro hc; simp [AV.scal] at hc
  | fptr _ _ _ _ _ _ => intro hc; simp [AV.scal] at hc
  | own _ _ _ _ => intro hc; simp [AV.scal] at hc
  | fn _ _ _ _ _ _ => intro hc; simp [AV.scal] at hc
  | agg _ _ _ _ _ => intro hc; simp [AV.scal] at hc
  | junk _ => intro hc; simp [AV.scal] at hc

/-! ### functions as data -/
/-- What is called with a value: this function, with these behind its arguments. -/
def FnAs (fv : AV) (f : FuncId) (caps : List AV) : Prop := ∀ (Y : Nat → Prop) (w : World) (v : Value), AVR Y w fv v → ∃ cvs : List Value, v = .func (.func f) #[] cvs.toArray ∧ AVs Y w caps cvs
theorem fnas_fn {f : FuncId} {caps : List AV} : FnAs (.fn (.func f) caps) f caps := fun Y w v h => inv_fn h
theorem fnas_d {f : FuncId} {cells : List (List D)} : FnAs (.d (.fn f cells)) f (cells.map .fptr) := fun Y w v h => by
  cases h with
  | d h =>
    cases h with
    | fn _ _ ads vals hA hv hr =>
      refine ⟨_, rfl, by simp, fun i c v hc hvv => ?_⟩
      rw [List.getElem?_map] at hc hvv
      cases hq : cells[i]? with
      | none => rw [hq] at hc; cases hc
      | some r =>
        have hi := (List.getElem?_eq_some_iff.1 hq).1
        rw [hq] at hc
        rw [List.getElem?_range hi] at hvv
        simp only [Option.map_some, Option.some.injEq] at hc hvv
        subst hc
        subst hvv
        exact .fptr r (ads i) (vals i) (hA i hi) (fun j x hj => hv i j r x hq hj) (fun j x hj => hr i j r x hq hj)

section
variable {ro : Option Nat} {P : Program} {h : H} {tm : List (Nat × AV)} {o : Oper} {av : AV}

theorem frz_vals0 {X : Nat → Prop} {w : World} (hr : Rel X w h) {l m : List AV} {vs : List Value} (k : FrzL h l m) (hv : AVs (Xh X h) w l vs) : AVs (Xh X []) w m vs := frz_vals hr (by rw [List.append_nil]) k hv
/-- A call that only computes, of any function value; own blocks are handed over to be read. -/
theorem q_call_ro {fo : Operand} {az : List Operand} {ts : Array TypeId} {f : FuncId} {fv : AV} {caps args args' vs : List AV} (ho : o.op = .call { callee := .value fo, args := az.toArray, argTypes := ts }) (hfo : Ev tm fo fv) (hfv : FnAs fv f caps)
    (hcf : ∀ args w, (callFunc f args).run P w = .ok (.enter f args) w) (has : Evs tm az vs) (hap : vs ++ caps = args) (k : FrzL h args args') (hcall : FSpec P f args' av) (hsc : av.scal = true) : OpV ro P h (evT tm) o av := by
  intro X w a K Q' hr hops hk
  have e1 := hops fo (by simp [ho, Op.operands, Call.operands])
  rw [hfo.eq] at e1
  obtain ⟨cvs, he, hcv⟩ := hfv _ _ _ e1
  refine ⟨fun _ _ => trivial, ?_⟩
  rw [semAt_any (by simp [ho]), callee_run ho he hcf]
  refine ⟨fun h => absurd h (by simp [AF, Fence.wide]), ?_⟩
  have hA : AVs (Xh X h) w args (az.map a.eval ++ cvs) := by
    rw [← hap, ← has.eq]
    exact (AVs_of_map (fun x hx => hops x (by simp [ho, Op.operands, Call.operands, hx]))).append hcv
  have := hcall X w _ (frz_rel hr (hz := h) (h' := []) (by rw [List.append_nil])) (frz_vals0 hr k hA)
  refine CallsIn.mono (F := AF ro) (n := 0) this fun e w' ⟨v, r, h', hev, ⟨hr1, hh1⟩, hr', hv, st⟩ => ?_
  subst hev
  subst hr1
  subst hh1
  obtain ⟨hr2, hst⟩ := hr.same st.os st.tape st.output st.size (fun i hi => st.keep i hi (by simp [keys]))
  exact hk v w' (scal_avr hv hsc) hr2 hst
/-- A call that only computes, of any function value. -/
theorem q_callF {fo : Operand} {az : List Operand} {ts : Array TypeId} {f : FuncId} {fv : AV} {caps args vs : List AV} (ho : o.op = .call { callee := .value fo, args := az.toArray, argTypes := ts }) (hfo : Ev tm fo fv) (hfv : FnAs fv f caps)
    (hcf : ∀ args w, (callFunc f args).run P w = .ok (.enter f args) w) (has : Evs tm az vs) (hap : vs ++ caps = args) (hcall : FSpec P f args av) : OpV ro P h (evT tm) o av := by
  intro X w a K Q' hr hops hk
  have e1 := hops fo (by simp [ho, Op.operands, Call.operands])
  rw [hfo.eq] at e1
  obtain ⟨cvs, he, hcv⟩ := hfv _ _ _ e1
  refine ⟨fun _ _ => trivial, ?_⟩
  rw [semAt_any (by simp [ho]), callee_run ho he hcf]
  refine ⟨fun h => absurd h (by simp [AF, Fence.wide]), ?_⟩
  have hA : AVs (Xh X h) w args (az.map a.eval ++ cvs) := by
    rw [← hap, ← has.eq]
    exact (AVs_of_map (fun x hx => hops x (by simp [ho, Op.operands, Call.operands, hx]))).append hcv
  have hp : h.Perm ([] ++ h) := List.Perm.refl _
  have := hcall _ w _ (hr.part hp) (hA.mono (part_keep hp))
  refine CallsIn.mono (F := AF ro) (n := 0) this fun e w' ⟨v, r, h', hev, ⟨hr1, hh1⟩, hr', hv, st⟩ => ?_
  subst hev
  subst hr1
  subst hh1
  obtain ⟨hr2, hst⟩ := hr.join hp hr' st
  exact hk v w' (hv.mono join_keep) hr2 hst
/-- A call about a part of the heap, which need not stand last. -/
theorem x_callp {fo : Operand} {az : List Operand} {ts : Array TypeId} {f : FuncId} {caps args vs : List AV} {hc hf : H} {Post : AV → H → Prop} (ho : o.op = .call { callee := .value fo, args := az.toArray, argTypes := ts })
    (hfo : Ev tm fo (.fn (.func f) caps)) (hcf : ∀ args w, (callFunc f args).run P w = .ok (.enter f args) w) (has : Evs tm az vs) (hap : vs ++ caps = args) (hp : h.Perm (hf ++ hc)) (hcall : ACalls P f args hc Post) : OpX ro P h (evT tm) o (fun r h2 => ∃ h', Post r h' ∧ h2 = hf ++ h') := by
  intro X w a K Q' hr hops hk
  have hx := x_call (ro := ro) (tm := tm) (h := h) (hc := hc) (hf := hf) ho hfo hcf has hap (hp.trans List.perm_append_comm) hcall
  refine hx X w a K Q' hr hops (fun v w' av h2 hg hA hr' st => ?_)
  obtain ⟨h', hpost, rfl⟩ := hg
  have p : (h' ++ hf).Perm (hf ++ h') := List.perm_append_comm
  exact hk v w' av (hf ++ h') ⟨h', hpost, rfl⟩ (by rw [← Xh_perm p]; exact hA) (hr'.perm p) (st.perm p)

/-- Blocks in another order. -/
theorem opx_perm {ρ : Operand → AV} {h' : H} {G : AV → H → Prop} (p : h.Perm h') (hx : OpX ro P h' ρ o G) : OpX ro P h ρ o G := by
  intro X w a K Q' hr hops hk
  exact hx X w a K Q' (hr.perm p) (fun x hx => by rw [← Xh_perm p]; exact hops x hx) (fun v w' av h2 hg hA hr' st => hk v w' av h2 hg hA hr' ⟨st.os, st.tape, st.output, st.size, fun i hi hn => st.keep i hi (fun hm => hn ((keys_perm p).2 hm)), fun g hg => (st.new g hg).imp (fun hm => (keys_perm p).2 hm) id⟩)
theorem weak_p {n : Nat} {ds : List Nat} {l : List (Nat × AV)} {h' h'' : H} (k : Keeps tm l) (p : h.Perm h'') (hs : List.Sublist h' h'') : Weak ⟨n, tm, h, ds⟩ ⟨n, l, h', ds⟩ := by
  refine (weak_tm k.sub).trans ?_
  intro X w a hs2
  have e : Xh X h = Xh X h'' := Xh_perm p
  have h1 : SR X w ⟨n, l, h'', ds⟩ a := ⟨hs2.rel.perm p, hs2.size, fun t => by have := hs2.tm t; show AVR (Xh X h'') w _ _; rw [← e]; exact this, hs2.ds⟩
  refine ⟨h1.drop hs, (Step.refl h w).drop (fun g hg => (keys_perm p).2 ((hs.map Prod.fst).subset hg))⟩
/-- A call that only computes; nil slices are handed over as empty ones. -/
theorem q_call_z {fo : Operand} {az : List Operand} {ts : Array TypeId} {f : FuncId} {caps args args' vs : List AV} (ho : o.op = .call { callee := .value fo, args := az.toArray, argTypes := ts }) (hfo : Ev tm fo (.fn (.func f) caps))
    (hcf : ∀ args w, (callFunc f args).run P w = .ok (.enter f args) w) (has : Evs tm az vs) (hap : vs ++ caps = args) (k : FrzL [] args args') (hcall : FSpec P f args' av) : OpV ro P h (evT tm) o av := by
  intro X w a K Q' hr hops hk
  have e1 := hops fo (by simp [ho, Op.operands, Call.operands])
  rw [hfo.eq] at e1
  obtain ⟨cvs, he, hcv⟩ := inv_fn e1
  refine ⟨fun _ _ => trivial, ?_⟩
  rw [semAt_any (by simp [ho]), callee_run ho he hcf]
  refine ⟨fun h => absurd h (by simp [AF, Fence.wide]), ?_⟩
  have hA : AVs (Xh X h) w args (az.map a.eval ++ cvs) := by
    rw [← hap, ← has.eq]
    exact (AVs_of_map (fun x hx => hops x (by simp [ho, Op.operands, Call.operands, hx]))).append hcv
  have hA2 := frz_vals hr (hz := []) (h' := h) (List.Perm.refl _) k hA
  have hp : h.Perm ([] ++ h) := List.Perm.refl _
  have := hcall _ w _ (hr.part hp) (hA2.mono (part_keep hp))
  refine CallsIn.mono (F := AF ro) (n := 0) this fun e w' ⟨v, r, h', hev, ⟨hr1, hh1⟩, hr', hv, st⟩ => ?_
  subst hev
  subst hr1
  subst hh1
  obtain ⟨hr2, hst⟩ := hr.join hp hr' st
  exact hk v w' (hv.mono join_keep) hr2 hst

/-! ### loops over functions -/
/-- What a call of yield does, on the caller's part of the heap. -/
def YCalls (P : Program) (l : Nat) (args : List AV) (h : H) (Post : H → Prop) : Prop :=
  ∀ (X : Nat → Prop) (w : World) (vals : List Value), Rel X w h → AVs (Xh X h) w args vals →
    ∃ fn tmps assign body, (Instr.yield l vals.toArray).run P w = .ok (.round l fn tmps assign body) w ∧
      RoundIn (AF none) 0 P l fn tmps assign body w (fun e w' => ∃ h', e = .returned (.bool true) ∧ Post h' ∧ Rel X w' h' ∧ Step h h' w w')
/-- A function that hands these, one behind the other, to whatever goes on. -/
def ItSpec (P : Program) (f : FuncId) (caps : List AV) (xs : List AV) : Prop :=
  ∀ (l : Nat) (Hs : Nat → H → Prop), (∀ i x hc, xs[i]? = some x → Hs i hc → YCalls P l [x] hc (Hs (i + 1))) → ∀ hc, Hs 0 hc → ACalls P f (.fn (.yield l) [] :: caps) hc (fun _ h' => Hs xs.length h')

theorem x_yield {fo : Operand} {az : List Operand} {ts : Array TypeId} {l : Nat} {vs : List AV} {hc hf : H} {Post : H → Prop} (ho : o.op = .call { callee := .value fo, args := az.toArray, argTypes := ts }) (hfo : Ev tm fo (.fn (.yield l) [])) (has : Evs tm az vs)
    (hp : h = hf ++ hc) (hy : YCalls P l vs hc Post) : OpX ro P h (evT tm) o (fun r h2 => r = .d (.b true) ∧ ∃ h', Post h' ∧ h2 = hf ++ h') := by
  intro X w a K Q' hr hops hk
  have e1 := hops fo (by simp [ho, Op.operands, Call.operands])
  rw [hfo.eq] at e1
  obtain ⟨cvs, he, hcv⟩ := inv_fn e1
  have hA : AVs (Xh X h) w vs (az.map a.eval) := by
    rw [← has.eq]
    exact AVs_of_map (fun x hx => hops x (by simp [ho, Op.operands, Call.operands, hx]))
  have p1 : h.Perm (hc ++ hf) := by rw [hp]; exact List.perm_append_comm
  obtain ⟨fn, tmps, assign, body, hrun, hround⟩ := hy _ w _ (hr.part p1) (hA.mono (part_keep p1))
  refine ⟨fun _ _ => trivial, ?_⟩
  have hex : (execOp a.eval o).run P w = .ok (.round l fn tmps assign body) w := by
    simp [execOp, ho, resolve, he, Deferred.ofValue, invoke, Result.andThen]
    exact hrun
  rw [semAt_any (by simp [ho]), hex]
  refine ⟨fun h => absurd h (by simp [AF, Fence.wide]), ?_⟩
  refine RoundIn.mono (F := AF ro) (n := 0) hround fun e w' ⟨h', hev, hpost, hr', st⟩ => ?_
  subst hev
  obtain ⟨hr2, hst⟩ := hr.join p1 hr' st
  have p : (h' ++ hf).Perm (hf ++ h') := List.perm_append_comm
  exact hk (.bool true) w' (.d (.b true)) (hf ++ h') ⟨rfl, h', hpost, rfl⟩ (mk_b true) (hr2.perm p) (hst.perm p)

theorem alloc_below (w : World) (o : Obj) {k : Nat} (h : k < w.heap.size) : (w.alloc o).heap[k]? = w.heap[k]? := by
  show (w.heap.push o)[k]? = _
  rw [Array.getElem?_push, if_neg (by omega)]
theorem putObj_cell (w : World) (l : Nat) (o : Obj) {k : Nat} (h : k ≠ l) : (w.putObj l o).heap[k]? = w.heap[k]? := World.putObj_heap_other h
/-- A record in another state. -/
theorem rel_lp {X : Nat → Prop} {w : World} {l : Nat} {r r' : Loop} {n : Nat} {tm : List (Nat × AV)} {h : H} {tmps : Array Value} (hr : Rel X w ((l, .lp r n tm) :: h)) (hh : w.heap[l]? = some (.loop { r with tmps := tmps })) (hn : tmps.size = n) (ht : ∀ t, AVR (Xh X ((l, .lp r n tm) :: h)) w (look tm t) (tmps.getD t undef)) :
    Rel X (w.putObj l (.loop { r' with tmps := tmps })) ((l, .lp r' n tm) :: h) ∧ Step ((l, .lp r n tm) :: h) ((l, .lp r' n tm) :: h) w (w.putObj l (.loop { r' with tmps := tmps })) := by
  have hl : l < w.heap.size := (Array.getElem?_eq_some_iff.1 hh).1
  have := Rel.repl (w' := w.putObj l (.loop { r' with tmps := tmps })) (i := 0) (g := l) (g' := l) (b := .lp r n tm) (b' := .lp r' n tm) hr rfl rfl rfl rfl (by simp) (fun k hk hne => putObj_cell w l _ hne) (.inl rfl) (fun hkeep => ⟨tmps, World.putObj_heap_same hl, hn, fun t => (ht t).mono hkeep⟩)
  exact this
theorem rel_lpi {X : Nat → Prop} {w : World} {l i : Nat} {r r' : Loop} {n : Nat} {tm : List (Nat × AV)} {h : H} {tmps : Array Value} (hr : Rel X w h) (hi : h[i]? = some (l, .lp r n tm)) (hh : w.heap[l]? = some (.loop { r with tmps := tmps })) (hn : tmps.size = n) (ht : ∀ t, AVR (Xh X h) w (look tm t) (tmps.getD t undef)) :
    Rel X (w.putObj l (.loop { r' with tmps := tmps })) (h.set i (l, .lp r' n tm)) ∧ Step h (h.set i (l, .lp r' n tm)) w (w.putObj l (.loop { r' with tmps := tmps })) := by
  have hl : l < w.heap.size := (Array.getElem?_eq_some_iff.1 hh).1
  exact Rel.repl (w' := w.putObj l (.loop { r' with tmps := tmps })) (i := i) (g := l) (g' := l) (b := .lp r n tm) (b' := .lp r' n tm) hr hi rfl rfl rfl (by simp) (fun k hk hne => putObj_cell w l _ hne) (.inl rfl) (fun hkeep => ⟨tmps, World.putObj_heap_same hl, hn, fun t => (ht t).mono hkeep⟩)
/-- A block is given up, and turned. -/
theorem rel_kill {X : Nat → Prop} {w : World} {l : Nat} {b : Blk} {h : H} (hr : Rel X w ((l, b) :: h)) (o : Obj) : Rel X (w.putObj l o) h ∧ Step ((l, b) :: h) h w (w.putObj l o) := by
  have hnd := List.nodup_cons.1 hr.nodup
  have hln : l ∉ keys h := hnd.1
  have st : Step ((l, b) :: h) h w (w.putObj l o) := ⟨rfl, rfl, rfl, by simp, fun i hi hk => putObj_cell w l o (fun e => hk (by rw [e]; simp [keys])), fun g hg => .inl (List.mem_cons_of_mem _ hg)⟩
  refine ⟨⟨hnd.2, fun g hg => hr.notX g (List.mem_cons_of_mem _ hg), fun g hg => ?_, fun g hx => ?_, fun g b2 hm => ?_, hr.glob.mono st.keeps⟩, st⟩
  · rw [World.putObj_size]; exact hr.lt g (List.mem_cons_of_mem _ hg)
  · rw [World.putObj_size]; exact hr.xlt g hx
  · have hgk : g ∈ keys h := List.mem_map.2 ⟨_, hm, rfl⟩
    exact (hr.blk g b2 (List.mem_cons_of_mem _ hm)).mono st.keeps (putObj_cell w l o (fun e => hln (e ▸ hgk)))
/-- Behind the assignment to the loop's variable: the round begins; its body. -/
def roundA (l : Nat) (P : Program) (R : Loop) (body : Code) (QB : Loop → Exit → St → Prop) (e : Exit) (s1 : St) : Prop :=
  e = .normal ∧ ∃ (i : Nat) (n : Nat) (tm : List (Nat × AV)), s1.h[i]? = some (l, .lp R n tm) ∧ ∀ R', awp (some l) P body (QB R') { s1 with h := s1.h.set i (l, .lp R' n tm) }
def dfr : Blk := .obj (.deferred (some []))
/-- The statement, of a loop that always runs to its end. -/
theorem awp_range {Q : Exit → St → Prop} {n : Nat} {ds : List Nat} {α : Type} {g : Operand} {p : Nat} {assign body : Code} {f : FuncId} {fv : AV} {caps xs : List AV} (hg : Ev tm g fv) (hfv : FnAs fv f caps) (hcf : ∀ args w, (callFunc f args).run P w = .ok (.enter f args) w)
    (it : ItSpec P f caps xs) (hpn : Nat.blt p n = true) (mk : α → H) (inv : Nat → α → Prop) (a0 : α) (hw : List.Sublist (mk a0) h) (h0 : inv 0 a0)
    (hround : ∀ (i : Nat) (x : AV) (a : α) (l d : Nat) (R : Loop), xs[i]? = some x → inv i a → awp (some l) P assign (roundA l P R body (fun R' e s' => e = .normal ∧ ∃ a', inv (i + 1) a' ∧ Weak s' ⟨n, [], (l, .lp R' n tm) :: (d, dfr) :: mk a', []⟩)) ⟨n, (p, x) :: tm, (l, .lp R n tm) :: (d, dfr) :: mk a, []⟩)
    (hk : ∀ (d : Nat) (a : α), inv xs.length a → Q .normal ⟨n, tm, (d, dfr) :: mk a, d :: ds⟩) : awp none P (.rangeFunc g #[p] assign body) Q ⟨n, tm, h, ds⟩ := by
  intro X w a hs0
  have hs : SR X w ⟨n, tm, mk a0, ds⟩ a := hs0.drop hw
  have e1 := hs.ev g
  rw [ev_evT, hg.eq] at e1
  obtain ⟨cvs, he, hcv⟩ := hfv _ _ _ e1
  refine wpIn_rangeFunc (F := AF none) fun fn _ => ?_
  let dd : Nat := w.heap.size
  let l : Nat := w.heap.size + 1
  let R : Loop := { state := .ready, pending := none, fn, tmps := a.tmps, params := #[p], assign, body, defers := w.heap.size }
  let w1 : World := (w.alloc (.deferred (some []))).alloc (.loop R)
  -- the two blocks
  have r1 := Rel.cons (w' := w.alloc (.deferred (some []))) (g := dd) (b := dfr) hs.rel rfl rfl rfl (by simp) (fun k hk => alloc_below w _ hk) ⟨Nat.le_refl _, by simp [dd]⟩ (fun _ => World.alloc_heap_new w _)
  have r2 := Rel.cons (w' := w1) (g := l) (b := .lp R n tm) r1.1 rfl rfl rfl (by simp [w1]) (fun k hk => alloc_below _ _ hk) ⟨by simp [l], by simp [l, w1]⟩ (fun hkeep => ⟨a.tmps, by
      have := World.alloc_heap_new (w.alloc (.deferred (some []))) (.loop R)
      simpa [w1, l] using this, hs.size, fun t => ((hs.tm t).mono r1.2.keeps).mono hkeep⟩)
  have st2 : Step (mk a0) ((l, .lp R n tm) :: (dd, dfr) :: mk a0) w w1 := r1.2.trans r2.2
  refine ⟨l, [{ target := .collected w.heap.size, args := #[] }], w1, { target := .fn (.func f) cvs.toArray, args := #[.func (.yield l) #[] #[]] }, w1, f, (Value.func (.yield l) #[] #[] :: cvs).toArray, w1, ?_, ?_, fun _ _ => trivial, ?_, fun h => absurd h (by simp [AF, Fence.wide]), ?_⟩
  · exact run_enterLoop_outer fn a.tmps #[p] assign body
  · simp [resolve, he, Deferred.ofValue]
    rfl
  · have := hcf (Value.func (.yield l) #[] #[] :: cvs).toArray w1
    simp only [invoke]
    rw [show (#[Value.func (.yield l) #[] #[]] ++ cvs.toArray) = (Value.func (.yield l) #[] #[] :: cvs).toArray by simp]
    exact this
  -- the rounds
  let Hs : Nat → H → Prop := fun i hc => ∃ b, inv i b ∧ hc = (l, .lp R n tm) :: (dd, dfr) :: mk b
  have hyield : ∀ i x hc, xs[i]? = some x → Hs i hc → YCalls P l [x] hc (Hs (i + 1)) := by
    rintro i x hc hx ⟨b, hb, rfl⟩
    intro X w v hr hv
    obtain ⟨v1, rst, rfl, hv1, hnil⟩ := hv.cons_inv
    obtain rfl := hnil.nil_inv
    obtain ⟨tmps, ht1, ht2, ht3⟩ := hr.blk l _ (List.mem_cons_self)
    refine ⟨fn, tmps.setIfInBounds p v1, assign, body, ?_, ?_⟩
    · have := run_yield (P := P) (args := #[v1]) ht1 rfl
      simpa [R] using this
    refine roundIn_of_wpIn (F := AF none) trivial ?_
    have hsr : SR X w ⟨n, (p, x) :: tm, (l, .lp R n tm) :: (dd, dfr) :: mk b, []⟩ { tmps := tmps.setIfInBounds p v1, defers := [] } := by
      refine ⟨hr, by simpa using ht2, fun t => ?_, rfl⟩
      show AVR _ _ (look ((p, x) :: tm) t) _
      rw [look_cons]
      have hpl : p < tmps.size := by rw [ht2]; exact Nat.le_of_ble_eq_true hpn
      by_cases hpt : p = t
      · subst hpt
        rw [if_pos rfl]
        simpa [Array.getD_eq_getD_getElem?, hpl] using hv1
      · rw [if_neg hpt]
        have := ht3 t
        simpa [Array.getD_eq_getD_getElem?, Array.getElem?_setIfInBounds, hpt] using this
    refine wpIn_mono (hround i x b l dd R hx hb X _ _ hsr) ?_
    rintro e a1 w1 ⟨s1, ⟨rfl, i1, n1, tm1, hi1, hbody⟩, hs1, st1⟩
    obtain ⟨tm1s, hu1, hu2, hu3⟩ := hs1.rel.blk l _ (List.mem_of_getElem? hi1)
    obtain ⟨hr2, st2⟩ := rel_lpi (r' := { R with state := .busy }) hs1.rel hi1 hu1 hu2 hu3
    refine ⟨_, run_beginRound hu1 rfl, ?_⟩
    have hs2 : SR X (w1.putObj l (.loop { { R with state := .busy } with tmps := tm1s })) { s1 with h := s1.h.set i1 (l, .lp { R with state := .busy } n1 tm1) } a1 := ⟨hr2, hs1.size, fun t => (hs1.tm t).mono st2.keeps, hs1.ds⟩
    refine wpIn_mono (hbody _ X _ _ hs2) ?_
    rintro e a' w' ⟨s', ⟨rfl, b', hb', hwk⟩, hs', st'⟩
    obtain ⟨hs2, st3⟩ := hwk X w' a' hs'
    obtain ⟨tmps', hu1, hu2, hu3⟩ := hs2.rel.blk l _ (List.mem_cons_self)
    obtain ⟨hr3, st4⟩ := rel_lp (r' := R) hs2.rel hu1 hu2 hu3
    exact ⟨_, _, run_endRound none hu1, _, rfl, ⟨b', hb', rfl⟩, hr3, ((st1.trans st2).trans st').trans (st3.trans st4)⟩
  have hcall := it l Hs hyield _ ⟨a0, h0, rfl⟩ X w1 (Value.func (.yield l) #[] #[] :: cvs) r2.1 (AVs.cons (.fn _ [] [] rfl (fun i c v hc => by simp at hc)) (hcv.mono st2.keeps))
  refine CallsIn.mono (F := AF none) (n := 0) hcall fun e w' ⟨v, r, h', hev, ⟨b, hb, hh⟩, hr', hv, st⟩ => ?_
  subst hev
  subst hh
  obtain ⟨tmps', hu1, hu2, hu3⟩ := hr'.blk l _ (List.mem_cons_self)
  obtain ⟨hr3, st4⟩ := rel_kill hr' (.loop { R with state := .exhausted, tmps := tmps' })
  refine ⟨none, _, run_endLoop hu1 (by simp [R]), ⟨_, hk dd b hb, ⟨hr3, hs.size, fun t => ?_, by simp [hs.ds, dd]⟩, ?_⟩⟩
  · exact ((hs.tm t).mono st2.keeps).mono ((st.trans st4).keeps)
  · exact ((Step.refl h w).drop (fun g hg => (hw.map Prod.fst).subset hg)).trans ((st2.trans st).trans st4)
end

/-- The marks of loops, and their blocks. -/
def marks (ds : List Nat) : H := ds.map (fun d => (d, dfr))
theorem und_marks {n : Nat} {tm : List (Nat × AV)} {h : H} : ∀ (ds : List Nat), Und ⟨n, tm, marks ds ++ h, ds⟩ ⟨n, tm, h, []⟩
  | [] => .done rfl
  | d :: ds => .step (i := 0) rfl rfl (und_marks ds)
/-- Two effects are ready. -/
theorem g_twod {ro : Option Nat} {P : Program} {ops : Array Oper} {Q : Exit → St → Prop} {n : Nat} {ds : List Nat} {kl h : H} {f : Nat} {listed : Array Bool} {tm : List (Nat × AV)} (i j : Nat) {oi oj : Oper} {Gi Gj : AV → H → Prop} {li lj : Array Bool} {di dj : Nat} (hr : Region.ready .any ops listed = [i, j]) (hoi : ops[i]? = some oi) (hoj : ops[j]? = some oj) (hli : listed.setIfInBounds i true = li) (hlj : listed.setIfInBounds j true = lj)
    (hdi : oi.dst = some di) (hdj : oj.dst = some dj) (hri : Runs ops ⟨n, tm, h, ds⟩ oi true) (hrj : Runs ops ⟨n, tm, h, ds⟩ oj true) (hxi : OpX ro P h (evT tm) oi Gi) (hxj : OpX ro P h (evT tm) oj Gj)
    (ki : ∀ av h', Gi av h' → KB kl h' ∧ GT ro P ops Q n ds (KB kl) f li ((di, av) :: tm) h') (kj : ∀ av h', Gj av h' → KB kl h' ∧ GT ro P ops Q n ds (KB kl) f lj ((dj, av) :: tm) h') : GT ro P ops Q n ds (KB kl) (f + 1) listed tm h :=
  g_two hr hoi hoj hli hlj hri hrj hxi hxj (fun av h' hg => by rw [hdi]; exact ki av h' hg) (fun av h' hg => by rw [hdj]; exact kj av h' hg)
theorem kb_all {kl h : H} (k : ∀ q, q ∈ kl → q ∈ h) : KB kl h := k
/-- A body's end where marks are left. -/
theorem ret_und {P : Program} {n : Nat} {tm : List (Nat × AV)} {h h0 : H} {ds : List Nat} {rs : Array ResultVar} {r r' : AV} {h' : H} {Post : AV → H → Prop} {e : Exit} (hu : Und ⟨n, tm, h, ds⟩ ⟨n, tm, h0, []⟩) (hr : ResA P ⟨n, tm, h0, []⟩ rs r) (hc : Cast h0 r h' r') (hp : Post r' h') (he : e = .ret ∨ e = .normal := by first | exact .inl rfl | exact .inr rfl) : retQ P rs Post e ⟨n, tm, h, ds⟩ := by
  rcases he with rfl | rfl <;> exact ⟨_, r, h', r', hu, hr, hc, hp⟩
end Go.Proofs.YtjnkbmodcddbkaaDoor
