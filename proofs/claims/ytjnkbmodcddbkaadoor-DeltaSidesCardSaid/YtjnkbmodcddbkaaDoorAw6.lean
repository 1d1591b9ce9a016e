/- A logic of abstract states. Part 6: more rules as a printer wants them. -/
import Derived.Test.YtjnkbmodcddbkaaDoorAw5
set_option linter.unusedVariables false
set_option linter.unusedSimpArgs false
namespace Go.Proofs.YtjnkbmodcddbkaaDoor
open Go Go.RowKit

inductive At1 {α : Type} : List α → Nat → α → Prop where
  | here {v : α} {r : List α} : At1 (v :: r) 0 v
  | there {x v : α} {i : Nat} {r : List α} (h : At1 r i v) : At1 (x :: r) (i + 1) v
theorem At1.eq {α : Type} {l : List α} {i : Nat} {v : α} (h : At1 l i v) : l[i]? = some v := by
  induction h with
  | here => rfl
  | there _ ih => simpa using ih
inductive Put1 {α : Type} : List α → Nat → α → List α → Prop where
  | here {v u : α} {r : List α} : Put1 (u :: r) 0 v (v :: r)
  | there {x v : α} {i : Nat} {r r' : List α} (h : Put1 r i v r') : Put1 (x :: r) (i + 1) v (x :: r')
theorem Put1.eq {α : Type} {l l' : List α} {i : Nat} {v : α} (h : Put1 l i v l') : i < l.length ∧ l' = splice l i [v] := by
  induction h with
  | here => simp [splice]
  | there _ ih =>
    obtain ⟨h1, h2⟩ := ih
    refine ⟨by simp; exact h1, ?_⟩
    subst h2
    simp [splice]
inductive HAt : H → Nat → Nat → Blk → Prop where
  | here {g : Nat} {b : Blk} {r : H} : HAt ((g, b) :: r) 0 g b
  | there {x : Nat × Blk} {i g : Nat} {b : Blk} {r : H} (h : HAt r i g b) : HAt (x :: r) (i + 1) g b
theorem HAt.eq {h : H} {i g : Nat} {b : Blk} (k : HAt h i g b) : h[i]? = some (g, b) := by
  induction k with
  | here => rfl
  | there _ ih => simpa using ih
inductive HPut : H → Nat → Nat → Blk → Blk → H → Prop where
  | here {g : Nat} {b b' : Blk} {r : H} : HPut ((g, b) :: r) 0 g b b' ((g, b') :: r)
  | there {x : Nat × Blk} {i g : Nat} {b b' : Blk} {r r' : H} (h : HPut r i g b b' r') : HPut (x :: r) (i + 1) g b b' (x :: r')
theorem HPut.eq {h h' : H} {i g : Nat} {b b' : Blk} (k : HPut h i g b b' h') : h[i]? = some (g, b) ∧ h' = h.set i (g, b') := by
  induction k with
  | here => simp
  | there _ ih => simpa using ih

def ZT (P : Program) (t : TypeId) (cells : List AV) : Prop := ∃ z, (∀ w, (zeroValue t).run P w = .ok z w) ∧ z.cells.toList.map constAV = cells

theorem wr64 {x : Int} (h1 : -9223372036854775808 ≤ x) (h2 : x ≤ 9223372036854775807) : IntKind.i64.wrap x = x := by
  rw [IntKind.wrap_i64 x]; omega
theorem bt_range (s : ByteArray) (i : Int) : 0 ≤ bt s i ∧ bt s i ≤ 255 := by
  unfold bt
  split
  · rename_i h
    have := (s[i.toNat]'h).toNat_lt
    omega
  · omega
theorem wr_bt (s : ByteArray) (i : Int) : IntKind.i64.wrap (bt s i) = bt s i := wr64 (by have := bt_range s i; omega) (by have := bt_range s i; omega)

section pops
variable {ro : Option Nat} {P : Program} {h : H} {ρ : Operand → AV} {o : Oper} {av : AV}
theorem q_load1 {x : Operand} {t : TypeId} (ht : ScT P t) {i g off : Nat} {e : TypeId} {cells : List AV} (ho : o.op = .load t x) (hx : ρ x = .ptr g off) (hi : HAt h i g (.var e cells)) (hc : At1 cells off av) : OpV ro P h ρ o av :=
  p_load1 ht ho hx hi.eq (.var rfl hc.eq)
/-- A whole variable. -/
theorem q_loadn {x : Operand} {t : TypeId} {n : Nat} (ht : AgT P t n) {i g : Nat} {e : TypeId} {cells : List AV} (ho : o.op = .load t x) (hx : ρ x = .ptr g 0) (hi : HAt h i g (.var e cells)) (hn : cells.length = n) : OpV ro P h ρ o (.agg cells) :=
  p_loadn ht ho hx hi.eq (by rw [List.drop_zero, ← hn, List.take_length]) hn
theorem q_load_row {x : Operand} {t : TypeId} {n : Nat} (ht : AgT P t n) {i g off j cap : Nat} {e : TypeId} {rows : List (List AV)} {r : List AV} (ho : o.op = .load t x) (hx : ρ x = .ptr g off) (hi : HAt h i g (.arr e n rows cap)) (hr : rows[j]? = some r) (hoff : off = j * n) (hn : r.length = n) : OpV ro P h ρ o (.agg r) := by
  obtain ⟨d, h1, h2, h3⟩ := ht
  refine opv_loadn h1 h2 h3 ho hx hi.eq (fun k c hk => .arr rfl hr hk (by rw [hoff])) hn rfl
theorem q_load_cell {x : Operand} {t : TypeId} (ht : ScT P t) {i g off j k cap n : Nat} {e : TypeId} {rows : List (List AV)} {r : List AV} (ho : o.op = .load t x) (hx : ρ x = .ptr g off) (hi : HAt h i g (.arr e n rows cap)) (hr : rows[j]? = some r) (hk : r[k]? = some av) (hoff : off = j * n + k) : OpV ro P h ρ o av :=
  p_load1 ht ho hx hi.eq (.arr rfl hr hk hoff)
theorem q_call {tm : List (Nat × AV)} {fo : Operand} {az : List Operand} {ts : Array TypeId} {f : FuncId} {caps args vs : List AV} (ho : o.op = .call { callee := .value fo, args := az.toArray, argTypes := ts }) (hfo : Ev tm fo (.fn (.func f) caps))
    (hcf : ∀ args w, (callFunc f args).run P w = .ok (.enter f args) w) (has : Evs tm az vs) (hap : vs ++ caps = args) (hcall : FSpec P f args av) : OpV ro P h (evT tm) o av :=
  opv_call ho hfo.eq hcf (by rw [has.eq, hap]) hcall
theorem q_makeFunc {tm : List (Nat × AV)} {f : Fn} {caps : List Operand} {cs : List AV} (ho : o.op = .makeFunc f #[] caps.toArray) (hc : Evs tm caps cs) : OpV ro P h (evT tm) o (.fn f cs) := opv_makeFunc ho hc.eq rfl
theorem q_extract {x : Operand} {i : Nat} {vs : List AV} (ho : o.op = .extract x i) (hx : ρ x = .tup vs) (hi : At1 vs i av) : OpV ro P h ρ o av := opv_extract ho hx hi.eq
theorem q_field {x : Operand} {t : TypeId} {f fo n : Nat} {cs : List AV} (ht : FldT P t f fo) (hs : ∀ fs fd, P.underlying t = some (.struct fs) → fs[f]? = some fd → ScT P fd.type) (ho : o.op = .field t x f) (hx : ρ x = .agg cs) (hc : At1 cs fo av) : OpV ro P h ρ o av := by
  obtain ⟨fs, fd, m, h1, h2, h3, h4⟩ := ht
  obtain ⟨d, h5, h6⟩ := hs fs fd h1 h2
  refine opv_pure (by simp [ho]) fun X w a hr hops => ?_
  have e1 := hops x (by simp [ho, Op.operands])
  rw [hx] at e1
  obtain ⟨vs, he, hA⟩ := inv_agg e1
  have hlt : fo < vs.length := by rw [hA.1]; exact (List.getElem?_eq_some_iff.1 hc.eq).1
  refine ⟨vs[fo], ?_, hA.2 fo _ _ hc.eq (List.getElem?_eq_getElem hlt)⟩
  subst h4
  simp [execOp, ho, he, Instr.field, run_underlying h1, h2, asAgg, part, run_isAgg h5, h6, hlt, Result.andThen]
/-- min and max of whole numbers. -/
theorem q_min {tm : List (Nat × AV)} {x y : Operand} {ts : Array TypeId} {k : IntKind} {m n z : Int} (ho : o.op = .call { callee := .builtin .min, args := #[x, y], argTypes := ts }) (hx : Ev tm x (.d (.i k m))) (hy : Ev tm y (.d (.i k n))) (hz : min m n = z) : OpV ro P h (evT tm) o (.d (.i k z)) :=
  opv_pure (by simp [ho]) fun X w a _ hops => ⟨.int k z, by
    have h1 := hops x (by simp [ho, Op.operands, Call.operands]); rw [hx.eq] at h1
    have h2 := hops y (by simp [ho, Op.operands, Call.operands]); rw [hy.eq] at h2
    have e : (if n < m then n else m) = z := by subst hz; rw [Int.min_def]; split <;> split <;> omega
    simp [execOp, ho, inv_i h1, inv_i h2, resolve, invoke, builtin, Builtin.min_, Builtin.min2, e, Result.andThen], mk_i k z⟩
theorem q_max {tm : List (Nat × AV)} {x y : Operand} {ts : Array TypeId} {k : IntKind} {m n z : Int} (ho : o.op = .call { callee := .builtin .max, args := #[x, y], argTypes := ts }) (hx : Ev tm x (.d (.i k m))) (hy : Ev tm y (.d (.i k n))) (hz : max m n = z) : OpV ro P h (evT tm) o (.d (.i k z)) :=
  opv_pure (by simp [ho]) fun X w a _ hops => ⟨.int k z, by
    have h1 := hops x (by simp [ho, Op.operands, Call.operands]); rw [hx.eq] at h1
    have h2 := hops y (by simp [ho, Op.operands, Call.operands]); rw [hy.eq] at h2
    have e : (if m < n then n else m) = z := by subst hz; rw [Int.max_def]; split <;> split <;> omega
    simp [execOp, ho, inv_i h1, inv_i h2, resolve, invoke, builtin, Builtin.max_, Builtin.max2, e, Result.andThen], mk_i k z⟩
end pops

section effects
variable {ro : Option Nat} {P : Program} {ops : Array Oper} {Q : Exit → St → Prop} {n : Nat} {tm : List (Nat × AV)} {h : H} {ds : List Nat} {o : Oper} {rest : List Oper} {av : AV} {d : Nat}
theorem l_alloc {e : TypeId} {cells : List AV} (hz : ZT P e cells) (hr : Runs ops ⟨n, tm, h, ds⟩ o true) (hd : o.dst = some d) (hn : Nat.blt d n = true) (ho : o.op = .alloc e)
    (k : ∀ g, g ∉ keys h → awpL ro P ops Q rest ⟨n, (d, .ptr g 0) :: tm, (g, .var e cells) :: h, ds⟩) : awpL ro P ops Q (o :: rest) ⟨n, tm, h, ds⟩ := by
  obtain ⟨z, h1, h2⟩ := hz
  refine awpL_op hr (opa_alloc ho (dst_ok hd hn) h1 h2 (fun g hg => ?_))
  rw [hd]
  exact k g hg
theorem l_box {e : TypeId} {x : Operand} {cv : AV} {cs : List AV} (hr : Runs ops ⟨n, tm, h, ds⟩ o true) (hd : o.dst = some d) (hn : Nat.blt d n = true) (ho : o.op = .box e x) (hx : Ev tm x cv) (hcs : cv.cs = cs) (h1 : cs.all AV.one = true)
    (k : ∀ g, g ∉ keys h → awpL ro P ops Q rest ⟨n, (d, .ptr g 0) :: tm, (g, .var e cs) :: h, ds⟩) : awpL ro P ops Q (o :: rest) ⟨n, tm, h, ds⟩ := by
  subst hcs
  refine awpL_op hr (opa_box ho (dst_ok hd hn) (by rw [ev_evT]; exact hx.eq) (fun c hc => List.all_eq_true.1 h1 c hc) (fun g hg => ?_))
  rw [hd]
  exact k g hg
theorem l_store1 {t : TypeId} {x y : Operand} {i g off : Nat} {e : TypeId} {cells cells' : List AV} {h' : H} {cv : AV} (hs : ∀ w, (sizeOf t).run P w = .ok 1 w) (hr : Runs ops ⟨n, tm, h, ds⟩ o true) (hd : o.dst = none) (ho : o.op = .store t x y) (hx : Ev tm x (.ptr g off)) (hy : Ev tm y cv)
    (h1 : cv.one = true) (hp : Put1 cells off cv cells') (hh : HPut h i g (.var e cells) (.var e cells') h') (k : awpL ro P ops Q rest ⟨n, tm, h', ds⟩) : awpL ro P ops Q (o :: rest) ⟨n, tm, h, ds⟩ := by
  obtain ⟨hi, hset⟩ := hh.eq
  obtain ⟨hl, hsp⟩ := hp.eq
  have hcs : cv.cs = [cv] := by cases cv <;> first | rfl | cases h1
  refine awpL_op hr (opa_store ho hd (by rw [ev_evT]; exact hx.eq) (by rw [ev_evT]; exact hy.eq) hcs (fun c hc => by simp at hc; subst hc; exact h1) hs rfl hi (b' := .var e cells') (by rw [hsp]; exact .var rfl (by simp; omega)) ?_)
  show awpL ro P ops Q rest ⟨n, tm, h.set i (g, .var e cells'), ds⟩
  rw [← hset]
  exact k
/-- The whole variable. -/
theorem l_storen {t : TypeId} {x y : Operand} {i g m : Nat} {e : TypeId} {cells cs : List AV} {h' : H} (hs : ∀ w, (sizeOf t).run P w = .ok m w) (hr : Runs ops ⟨n, tm, h, ds⟩ o true) (hd : o.dst = none) (ho : o.op = .store t x y) (hx : Ev tm x (.ptr g 0)) (hy : Ev tm y (.agg cs))
    (h1 : cs.all AV.one = true) (hm : cs.length = m) (hl : cells.length = m) (hh : HPut h i g (.var e cells) (.var e cs) h') (k : awpL ro P ops Q rest ⟨n, tm, h', ds⟩) : awpL ro P ops Q (o :: rest) ⟨n, tm, h, ds⟩ := by
  obtain ⟨hi, hset⟩ := hh.eq
  have hsp : splice cells 0 cs = cs := by simp [splice, hm, ← hl]
  refine awpL_op hr (opa_store (cv := .agg cs) (cs := cs) ho hd (by rw [ev_evT]; exact hx.eq) (by rw [ev_evT]; exact hy.eq) rfl (fun c hc => List.all_eq_true.1 h1 c hc) hs hm hi (b' := .var e cs) (by
    have := Blk.stored.var (b := .var e cells) (off := 0) (cs := cs) rfl (by rw [hm, hl]; omega)
    rwa [hsp] at this) ?_)
  show awpL ro P ops Q rest ⟨n, tm, h.set i (g, .var e cs), ds⟩
  rw [← hset]
  exact k
/-- A call that turns the heap, or makes blocks. -/
theorem l_call {fo : Operand} {az : List Operand} {ts : Array TypeId} {f : FuncId} {caps args vs : List AV} {hc hf : H} {Post : AV → H → Prop} (hr : Runs ops ⟨n, tm, h, ds⟩ o true) (hd : o.dst = some d) (hn : Nat.blt d n = true) (ho : o.op = .call { callee := .value fo, args := az.toArray, argTypes := ts })
    (hfo : Ev tm fo (.fn (.func f) caps)) (hcf : ∀ args w, (callFunc f args).run P w = .ok (.enter f args) w) (has : Evs tm az vs) (hap : vs ++ caps = args) (hp : h.Perm (hc ++ hf)) (hcall : ACalls P f args hc Post)
    (k : ∀ r h', Post r h' → awpL ro P ops Q rest ⟨n, (d, r) :: tm, h' ++ hf, ds⟩) : awpL ro P ops Q (o :: rest) ⟨n, tm, h, ds⟩ := by
  refine awpL_op hr (opa_call ho (dst_ok hd hn) (by rw [ev_evT]; exact hfo.eq) hcf (by rw [ev_evT, has.eq, hap]) hp hcall (fun r h' hq => ?_))
  rw [hd]
  exact k r h' hq
/-- Parting a bool. -/
theorem lsplit {t : Nat} {x : Bool} {l : List Oper} (hl : Look tm t (.d (.b x))) (h1 : x = true → awpL ro P ops Q l ⟨n, tm, h, ds⟩) (h2 : x = false → awpL ro P ops Q l ⟨n, tm, h, ds⟩) : awpL ro P ops Q l ⟨n, tm, h, ds⟩ := by
  cases hx : x with
  | true => exact h1 hx
  | false => exact h2 hx
end effects

section code
variable {ro : Option Nat} {P : Program} {Q : Exit → St → Prop} {n : Nat} {tm : List (Nat × AV)} {h : H} {ds : List Nat}
theorem pcond_t {c : Operand} {x y : Code} {t : Bool} (hc : Ev tm c (.d (.b t))) (ht : t = true) (h1 : awp ro P x Q ⟨n, tm, h, ds⟩) : awp ro P (.cond c x y) Q ⟨n, tm, h, ds⟩ := pcond hc (fun _ => h1) (fun hf => by rw [ht] at hf; cases hf)
theorem pcond_f {c : Operand} {x y : Code} {t : Bool} (hc : Ev tm c (.d (.b t))) (ht : t = false) (h1 : awp ro P y Q ⟨n, tm, h, ds⟩) : awp ro P (.cond c x y) Q ⟨n, tm, h, ds⟩ := pcond hc (fun hf => by rw [ht] at hf; cases hf) (fun _ => h1)
theorem psplit {t : Nat} {x : Bool} {c : Code} (hl : Look tm t (.d (.b x))) (h1 : x = true → awp ro P c Q ⟨n, tm, h, ds⟩) (h2 : x = false → awp ro P c Q ⟨n, tm, h, ds⟩) : awp ro P c Q ⟨n, tm, h, ds⟩ := by
  cases hx : x with
  | true => exact h1 hx
  | false => exact h2 hx
/-- The end of a body: one result in a slot, or several. -/
theorem ret_now {rs : Array ResultVar} {r r' : AV} {h' : H} {Post : AV → H → Prop} (hr : ResA P ⟨n, tm, h, []⟩ rs r) (hc : Cast h r h' r') (hp : Post r' h') : retQ P rs Post .ret ⟨n, tm, h, []⟩ := ⟨_, r, h', r', .done rfl, hr, hc, hp⟩
theorem end_now {rs : Array ResultVar} {r r' : AV} {h' : H} {Post : AV → H → Prop} (hr : ResA P ⟨n, tm, h, []⟩ rs r) (hc : Cast h r h' r') (hp : Post r' h') : retQ P rs Post .normal ⟨n, tm, h, []⟩ := ⟨_, r, h', r', .done rfl, hr, hc, hp⟩
theorem rv_t {t : Nat} {av : AV} (hl : Look tm t av) : RV P ⟨n, tm, h, ds⟩ (.tmp t) av := .tmp hl.eq
theorem rv_c {p : Nat} {t : TypeId} {m i g : Nat} {e : TypeId} {cells : List AV} (ht : AgT P t m) (hl : Look tm p (.ptr g 0)) (hi : HAt h i g (.var e cells)) (hn : cells.length = m) : RV P ⟨n, tm, h, ds⟩ (.cell p t) (.agg cells) := by
  obtain ⟨d, h1, h2, h3⟩ := ht
  exact .celln h1 h2 h3 hl.eq hi.eq (at_var (by rw [List.drop_zero, List.take_length])) hn
/-- Nothing of the heap is kept. -/
theorem Cast.all (h : H) (r : AV) : Cast h r [] r := Cast.drop r (List.nil_sublist h)
end code
/-- Tests, told as propositions. -/
theorem zs : (∀ (p : Prop) [Decidable p], (decide p = true) = p) ∧ (∀ (p : Prop) [Decidable p], (decide p = false) = ¬ p) ∧ (∀ b : Bool, ((!b) = true) = (b = false)) ∧ (∀ b : Bool, ((!b) = false) = (b = true)) ∧ (∀ (α : Type) (a b : α), (a ≠ b) = ¬ (a = b)) ∧ (∀ (p : Prop) [Decidable p], (¬ ¬ p) = p) :=
  ⟨fun p _ => decide_eq_true_eq, fun p _ => propext decide_eq_false_iff_not, fun b => by cases b <;> simp, fun b => by cases b <;> simp, fun α a b => rfl, fun p _ => propext Decidable.not_not⟩
/-- A row of marks. -/
def bs (n k : Nat) : Array Bool := ((List.range n).map (fun i => Nat.testBit k i)).toArray
end Go.Proofs.YtjnkbmodcddbkaaDoor
