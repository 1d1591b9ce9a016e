/- A logic of abstract states. Part 13: ranges over strings; panics; contracts of the kit. -/
import Derived.Test.YtjnkbmodcddbkaaDoorAw12
set_option linter.unusedVariables false
set_option linter.unusedSimpArgs false
namespace Go.Proofs.YtjnkbmodcddbkaaDoor
open Go Go.RowKit

section
variable {ro : Option Nat} {P : Program} {h : H} {tm : List (Nat × AV)} {o : Oper}
/-- The iterator of a range over a string. -/
def itr (s : ByteArray) (pos : Nat) : Blk := .obj (.stringIter s pos)
theorem x_range_s {t : TypeId} {x : Operand} {s : ByteArray} (ht : P.underlying t = some .string) (ho : o.op = .range t x) (hx : Ev tm x (.d (.s s))) : OpX ro P h (evT tm) o (fun av h' => ∃ g, g ∉ keys h ∧ av = .ptr g 0 ∧ h' = (g, itr s 0) :: h) :=
  opx_val (by simp [ho]) fun X w a hr hops => by
    have e1 := hops x (by simp [ho, Op.operands]); rw [hx.eq] at e1
    have hc := Rel.cons (w' := w.alloc (.stringIter s 0)) (g := w.heap.size) (b := itr s 0) hr rfl rfl rfl (by simp) (fun k hk => alloc_below w _ hk) ⟨Nat.le_refl _, by simp⟩ (fun _ => World.alloc_heap_new w _)
    have hrun : (execOp a.eval o).run P w = .ok (.value (.pointer (some ⟨w.heap.size, 0, none⟩))) (w.alloc (.stringIter s 0)) := by
      simp [execOp, ho, inv_s e1, Instr.range, run_underlying ht, Result.andThen, run_newObj_alloc]
    exact ⟨_, _, _, .ptr w.heap.size 0, hrun, ⟨_, fun hm => (by have := hr.lt _ hm; omega), rfl, rfl⟩, hc.1, hc.2, .ptr _ _⟩
theorem run_getObj_it {w : World} {r : Nat} {s : ByteArray} {p : Nat} (h : w.heap[r]? = some (.stringIter s p)) : (getObj r).run P w = .ok (.stringIter s p) w := by simp [getObj, Sem.run, h]
theorem run_setObj_it {w : World} {r : Nat} {s : ByteArray} {p : Nat} (o : Obj) (h : w.heap[r]? = some (.stringIter s p)) : (setObj r o).run P w = .ok () (w.putObj r o) := by simp [setObj, Sem.run, h, World.putObj]
theorem x_next_s {x : Operand} {s : ByteArray} {pos i g : Nat} {h' : H} (ho : o.op = .next x true) (hx : Ev tm x (.ptr g 0)) (hh : HPut h i g (itr s pos) (itr s (pos + (Utf8.decode s pos).2)) h') (hp : pos < s.size) : OpX ro P h (evT tm) o (fun av h2 => av = .tup [.d (.b true), .d (.i .i64 (pos : Int)), .d (.i .i32 ((Utf8.decode s pos).1 : Nat))] ∧ h2 = h') := by
  obtain ⟨hi, rfl⟩ := hh.eq
  refine opx_val (by simp [ho]) fun X w a hr hops => ?_
  have e1 := hops x (by simp [ho, Op.operands]); rw [hx.eq] at e1
  have hb : w.heap[g]? = some (.stringIter s pos) := hr.blk g _ (List.mem_of_getElem? hi)
  have hl : g < w.heap.size := (Array.getElem?_eq_some_iff.1 hb).1
  have hc := Rel.repl (w' := w.putObj g (.stringIter s (pos + (Utf8.decode s pos).2))) (g' := g) (b' := itr s (pos + (Utf8.decode s pos).2)) hr hi rfl rfl rfl (by simp) (fun k hk hne => putObj_cell w g _ hne) (.inl rfl) (fun _ => World.putObj_heap_same hl)
  refine ⟨_, _, _, _, ?_, ⟨rfl, rfl⟩, hc.1, hc.2, AVs.tup (.cons (mk_b true) (.cons (mk_i _ _) (.cons (mk_i _ _) .nil)))⟩
  simp [execOp, ho, inv_ptr e1, Instr.next, run_getObj_it hb, run_setObj_it _ hb, hp, Result.andThen, goInt]
theorem x_next_end {x : Operand} {s : ByteArray} {pos g : Nat} (ho : o.op = .next x true) (hx : Ev tm x (.ptr g 0)) (hm : (g, itr s pos) ∈ h) (hp : s.size ≤ pos) : OpX ro P h (evT tm) o (fun av h2 => av = .tup [.d (.b false)] ∧ h2 = h) :=
  opx_val (by simp [ho]) fun X w a hr hops => by
    have e1 := hops x (by simp [ho, Op.operands]); rw [hx.eq] at e1
    have hb : w.heap[g]? = some (.stringIter s pos) := hr.blk g _ hm
    refine ⟨_, _, _, _, ?_, ⟨rfl, rfl⟩, hr, Step.refl _ _, AVs.tup (.cons (mk_b false) .nil)⟩
    simp [execOp, ho, inv_ptr e1, Instr.next, run_getObj_it hb, Nat.not_lt.2 hp, Result.andThen]
theorem opv_mkiface {x : Operand} {t : TypeId} {d : TypeDesc} {k : IntKind} {n : Int} (ht : P.underlying t = some d) (hd : (match d with | .interface _ => true | _ => false) = false) (ho : o.op = .makeInterface t x) (hx : Ev tm x (.agg [.d (.i k n)])) : OpV ro P h (evT tm) o (.d (.v (.iface t (.agg #[.int k n])))) :=
  opv_pure (by simp [ho]) fun X w a _ hops => by
    have e1 := hops x (by simp [ho, Op.operands]); rw [hx.eq] at e1
    obtain ⟨vs, he, hA⟩ := inv_agg e1
    obtain ⟨v, r, rfl, h1, h2⟩ := hA.cons_inv
    obtain rfl := h2.nil_inv
    rw [inv_i h1] at he
    refine ⟨_, ?_, .d (.v _ rfl)⟩
    simp only [execOp, ho, he, Instr.makeInterface, run_underlying ht, Sem.run_bind, Result.andThen]
    cases d <;> first | rfl | cases hd
end
section
variable {ro : Option Nat} {P : Program} {ops : Array Oper} {Q : Exit → St → Prop} {n : Nat} {tm : List (Nat × AV)} {h : H} {ds : List Nat} {o : Oper} {rest : List Oper}
theorem inv_v {Y : Nat → Prop} {w : World} {x v : Value} (h : AVR Y w (.d (.v x)) v) : v = x := by cases h with | d h => cases h with | v _ _ => rfl
theorem awpL_panic {x : Operand} {t : TypeId} {pv : Value} (hr : Runs ops ⟨n, tm, h, ds⟩ o true) (ho : o.op = .panic x) (hx : Ev tm x (.d (.v (.iface t pv)))) (hQ : Q (.panic [{ v := .iface t pv, recovered := false }]) ⟨n, tm, h, ds⟩) : awpL ro P ops Q (o :: rest) ⟨n, tm, h, ds⟩ := by
  intro X w a hs
  refine wpListIn_step fun K hK => ?_
  rw [if_pos (hr.spec hs)]
  refine ⟨fun _ _ => trivial, ?_⟩
  have e1 := hs.ev x
  rw [ev_evT, hx.eq] at e1
  have hrun : (execOp a.eval o).run P w = .halt (.panic (.iface t pv)) w := by
    simp [execOp, ho, inv_v e1, Instr.panic, Result.andThen]
  rw [semAt_any (by simp [ho]), hrun]
  exact ⟨_, hQ, hs, Step.refl _ _⟩
end

/-- A function that may panic with one sort of value. -/
def PCalls (P : Program) (f : FuncId) (args : List AV) (h : H) (t : TypeId) (Post : Bool → H → Prop) : Prop :=
  ∀ (X : Nat → Prop) (w : World) (vals : List Value), Rel X w h → AVs (Xh X h) w args vals →
    CallsIn (AF none) 0 P f vals.toArray w (fun e w' => ∃ ok h', Post ok h' ∧ Rel X w' h' ∧ Step h h' w w' ∧ ((ok = true ∧ ∃ v, e = .returned v) ∨ (ok = false ∧ ∃ n, e = .panicked [{ v := .iface t (.agg #[.int .i64 n]), recovered := false }])))
def retP (t : TypeId) (Post : Bool → H → Prop) : Exit → St → Prop
  | .normal, s | .ret, s => s.ds = [] ∧ ∃ h', List.Sublist h' s.h ∧ Post true h'
  | .panic chain, s => s.ds = [] ∧ (∃ n, chain = [{ v := .iface t (.agg #[.int .i64 n]), recovered := false }]) ∧ ∃ h', List.Sublist h' s.h ∧ Post false h'
  | _, _ => False
theorem pcalls_of {P : Program} {f : FuncId} {fn : Func} {c : Code} {n : Nat} {args : List AV} {h : H} {t : TypeId} {Post : Bool → H → Prop} (hf : P.funcs[f]? = some fn) (hb : fn.body = some c) (hn : fn.ntmps = n) (hrs : fn.results = #[]) (hle : args.length ≤ n)
    (hbody : awp none P c (retP t Post) ⟨n, tmOf 0 args, h, []⟩) : PCalls P f args h t Post := by
  intro X w vals hr hv
  refine callsIn_of_wp_marks hf hb trivial ?_
  have hvl : vals.length = args.length := hv.1
  have hs : SR X w ⟨n, tmOf 0 args, h, []⟩ { tmps := vals.toArray ++ Array.replicate (fn.ntmps - vals.toArray.size) undef, defers := [] } := by
    refine ⟨hr, ?_, fun t => ?_, rfl⟩
    · simp [hn, hvl]; omega
    · show AVR (Xh X h) w (look (tmOf 0 args) t) _
      rw [look_tmOf, if_pos (Nat.zero_le _), Nat.sub_zero]
      rw [Array.getD_eq_getD_getElem?, Array.getElem?_append]
      by_cases ht : t < args.length
      · rw [if_pos (by simpa [hvl] using ht), List.getElem?_eq_getElem ht]
        have hlt : t < vals.length := by omega
        simp only [List.getElem?_toArray, List.getElem?_eq_getElem hlt, Option.getD_some]
        exact hv.2 t _ _ (List.getElem?_eq_getElem ht) (List.getElem?_eq_getElem hlt)
      · rw [List.getElem?_eq_none (by omega)]
        exact .junk _
  refine wpIn_mono (hbody X w _ hs) ?_
  rintro e a' w' ⟨s', q, r', st⟩
  have hdef : s'.ds = [] → a'.defers = [] := fun hd => by rw [r'.ds, hd]; rfl
  have hres : ∀ tmps : Array Value, (results fn tmps).run P w' = .ok (.tuple #[]) w' := fun tmps => by rw [results_eq, hrs]; simp
  have hnorm : (s'.ds = [] ∧ ∃ h', List.Sublist h' s'.h ∧ Post true h') → LeavesInM (AF none) 0 P fn a'.tmps (fun e w'' => ∃ ok h', Post ok h' ∧ Rel X w'' h' ∧ Step h h' w w'' ∧ ((ok = true ∧ ∃ v, e = .returned v) ∨ (ok = false ∧ ∃ n, e = .panicked [{ v := .iface t (.agg #[.int .i64 n]), recovered := false }]))) a'.defers .returning w' := by
    rintro ⟨hd, h', hs', hp⟩
    rw [hdef hd]
    exact ⟨_, hres _, true, h', hp, r'.rel.drop hs', st.drop (fun g hg => (hs'.map Prod.fst).subset hg), .inl ⟨rfl, _, rfl⟩⟩
  cases e with
  | normal => exact hnorm q
  | ret => exact hnorm q
  | panic chain =>
    obtain ⟨hd, ⟨m, rfl⟩, h', hs', hp⟩ := q
    show LeavesInM _ _ _ _ _ _ a'.defers _ w'
    rw [hdef hd]
    exact ⟨false, h', hp, r'.rel.drop hs', st.drop (fun g hg => (hs'.map Prod.fst).subset hg), .inr ⟨rfl, m, rfl⟩⟩
  | exit id => exact q.elim
  | goto l => exact q.elim
  | outgrown => exact q.elim
/-- A contract of the kit, of a function that only computes and lays blocks that no one names. -/
theorem fspec_of_calls {P : Program} {f : FuncId} {args : List AV} {r : AV} (hc : ∀ (X : Nat → Prop) (w : World) (vals : List Value), GOK X w → AVs X w args vals → ∃ v, (∀ Y w', AVR Y w' r v) ∧ Calls P f vals.toArray w (fun e w' => e = .returned v ∧ w'.os = w.os ∧ w'.tape = w.tape ∧ w'.output = w.output ∧ w.heap.size ≤ w'.heap.size ∧ ∀ k, k < w.heap.size → w'.heap[k]? = w.heap[k]?)) : FSpec P f args r := by
  intro X w vals hr hv
  have hX : Xh X [] = X := by funext g; simp [Xh, keys]
  rw [hX] at hv
  have hg : GOK X w := by have := hr.glob; rw [hX] at this; exact this
  obtain ⟨v, hA, hcall⟩ := hc X w vals hg hv
  have h2 : CallsIn (AF none) 0 P f vals.toArray w _ := callsIn_wide.2 hcall
  refine h2.mono fun e w' ⟨he, h3, h4, h5, h6, h7⟩ => ?_
  obtain ⟨r1, st⟩ := hr.same h3 h4 h5 h6 h7
  exact ⟨v, r, [], he, ⟨rfl, rfl⟩, r1, hA _ _, st⟩
end Go.Proofs.YtjnkbmodcddbkaaDoor
