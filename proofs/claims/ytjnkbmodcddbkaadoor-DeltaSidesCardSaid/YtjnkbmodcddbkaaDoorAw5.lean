/- A logic of abstract states. Part 5: the rules as a printer wants them: states written out; types' facts; build, slices, append. -/
import Derived.Test.YtjnkbmodcddbkaaDoorAw4
set_option linter.unusedVariables false
set_option linter.unusedSimpArgs false
namespace Go.Proofs.YtjnkbmodcddbkaaDoor
open Go Go.RowKit

inductive Look : List (Nat × AV) → Nat → AV → Prop where
  | here {t : Nat} {v : AV} {r : List (Nat × AV)} : Look ((t, v) :: r) t v
  | there {k t : Nat} {u v : AV} {r : List (Nat × AV)} (h : Nat.beq k t = false) (l : Look r t v) : Look ((k, u) :: r) t v
theorem Look.eq {tm : List (Nat × AV)} {t : Nat} {v : AV} (h : Look tm t v) : look tm t = v := by
  induction h with
  | here => rw [look_cons, if_pos rfl]
  | there h l ih =>
    rename_i k t u v r
    rw [look_cons, if_neg (by intro e; subst e; rw [Nat.beq_refl] at h; cases h)]
    exact ih
/-- The slot's value stands at place n. -/
def nthA : Nat → List (Nat × AV) → Nat → Option AV
  | 0, (k, v) :: _, t => match Nat.beq k t with
    | true => some v
    | false => none
  | n + 1, (k, _) :: r, t => match Nat.beq k t with
    | true => none
    | false => nthA n r t
  | _, [], _ => none
theorem Look.n (t : Nat) {v : AV} : ∀ (n : Nat) {tm : List (Nat × AV)}, nthA n tm t = some v → Look tm t v
  | 0, [], h => by simp [nthA] at h
  | 0, (k, u) :: r, h => by
    rw [nthA] at h
    split at h
    · rename_i hk
      injection h with h
      subst h
      rw [Nat.eq_of_beq_eq_true hk]
      exact .here
    · cases h
  | n + 1, [], h => by simp [nthA] at h
  | n + 1, (k, u) :: r, h => by
    rw [nthA] at h
    split at h
    · cases h
    · rename_i hk
      exact .there hk (Look.n t n h)
/-- Operands. -/
def evT (tm : List (Nat × AV)) : Operand → AV
  | .tmp t => look tm t
  | .const v => constAV v
  | .global _ => .junk
  | .func f => .fn (.func f) []
theorem ev_evT (s : St) : s.ev = evT s.tm := by funext x; cases x <;> rfl
inductive Ev (tm : List (Nat × AV)) : Operand → AV → Prop where
  | t {t : Nat} {v : AV} (h : Look tm t v) : Ev tm (.tmp t) v
  | i {k : IntKind} {n : Int} : Ev tm (.const (.int k n)) (.d (.i k n))
  | b {x : Bool} : Ev tm (.const (.bool x)) (.d (.b x))
  | s {x : ByteArray} : Ev tm (.const (.string x)) (.d (.s x))
  | n : Ev tm (.const (.slice none 0 0)) .nil
  | f {f : FuncId} : Ev tm (.func f) (.fn (.func f) [])
theorem Ev.eq {tm : List (Nat × AV)} {x : Operand} {v : AV} (h : Ev tm x v) : evT tm x = v := by cases h <;> first | rfl | exact Look.eq ‹_›
inductive Evs (tm : List (Nat × AV)) : List Operand → List AV → Prop where
  | nil : Evs tm [] []
  | cons {x : Operand} {v : AV} {l : List Operand} {vs : List AV} (h : Ev tm x v) (k : Evs tm l vs) : Evs tm (x :: l) (v :: vs)
theorem Evs.eq {tm : List (Nat × AV)} {l : List Operand} {vs : List AV} (h : Evs tm l vs) : l.map (evT tm) = vs := by
  induction h with
  | nil => rfl
  | cons h _ ih => simp [h.eq, ih]

section printed
variable {ro : Option Nat} {P : Program} {ops : Array Oper} {Q : Exit → St → Prop} {n : Nat} {tm : List (Nat × AV)} {h : H} {ds : List Nat} {o : Oper} {rest : List Oper} {av : AV} {d : Nat}

theorem dst_ok (hd : o.dst = some d) (hn : Nat.blt d n = true) : ∀ d', o.dst = some d' → d' < n := fun d' e => by
  rw [hd] at e
  injection e with e
  subst e
  exact Nat.le_of_ble_eq_true hn
/-- An operation that only yields a value. -/
theorem lv (hr : Runs ops ⟨n, tm, h, ds⟩ o true) (hd : o.dst = some d) (hn : Nat.blt d n = true) (hv : OpV ro P h (evT tm) o av) (k : awpL ro P ops Q rest ⟨n, (d, av) :: tm, h, ds⟩) : awpL ro P ops Q (o :: rest) ⟨n, tm, h, ds⟩ := by
  refine awpL_v hr (dst_ok hd hn) (av := av) (by rw [ev_evT]; exact hv) ?_
  rw [hd]
  exact k
theorem lo (hr : Runs ops ⟨n, tm, h, ds⟩ o false) (hd : o.dst = some d) (hn : Nat.blt d n = true) (k : awpL ro P ops Q rest ⟨n, (d, .tup []) :: tm, h, ds⟩) : awpL ro P ops Q (o :: rest) ⟨n, tm, h, ds⟩ := by
  refine awpL_off hr (dst_ok hd hn) ?_
  rw [hd]
  exact k
theorem Runs.on {j t : Nat} {want x : Bool} (hg : o.guard = some (j, want)) (hj : (ops[j]?).bind (·.dst) = some t) (hl : Look tm t (.d (.b x))) (hx : x = want) : Runs ops ⟨n, tm, h, ds⟩ o true := .guard hg hj hl.eq (by simp [hx])
theorem Runs.off {j t : Nat} {want x : Bool} (hg : o.guard = some (j, want)) (hj : (ops[j]?).bind (·.dst) = some t) (hl : Look tm t (.d (.b x))) (hx : x = !want) : Runs ops ⟨n, tm, h, ds⟩ o false := .guard hg hj hl.eq (by subst hx; cases want <;> rfl)
theorem Runs.no {j t : Nat} {want : Bool} (hg : o.guard = some (j, want)) (hj : (ops[j]?).bind (·.dst) = some t) (hl : Look tm t (.tup [])) : Runs ops ⟨n, tm, h, ds⟩ o false := .und hg hj hl.eq
theorem pcond {c : Operand} {x y : Code} {t : Bool} (hc : Ev tm c (.d (.b t))) (h1 : t = true → awp ro P x Q ⟨n, tm, h, ds⟩) (h2 : t = false → awp ro P y Q ⟨n, tm, h, ds⟩) : awp ro P (.cond c x y) Q ⟨n, tm, h, ds⟩ :=
  awp_cond (by rw [ev_evT]; exact hc.eq) h1 h2

/-- Slots forgotten. -/
inductive Keeps (tm : List (Nat × AV)) : List (Nat × AV) → Prop where
  | nil : Keeps tm []
  | cons {t : Nat} {v : AV} {l : List (Nat × AV)} (h : Look tm t v) (k : Keeps tm l) : Keeps tm ((t, v) :: l)
theorem Keeps.ce {tm : List (Nat × AV)} {t : Nat} {v v' : AV} {l : List (Nat × AV)} (h : Look tm t v) (e : v = v') (k : Keeps tm l) : Keeps tm ((t, v') :: l) := .cons (e ▸ h) k
theorem Keeps.sub {l : List (Nat × AV)} (k : Keeps tm l) : Sub tm l := by
  induction k with
  | nil => exact .nil
  | cons h _ ih => exact .cons h.eq ih
theorem pweak {c : Code} {l : List (Nat × AV)} (k : Keeps tm l) (hh : awp ro P c Q ⟨n, l, h, ds⟩) : awp ro P c Q ⟨n, tm, h, ds⟩ := awp_weak (weak_tm k.sub) hh
theorem lweak {l : List (Nat × AV)} {os : List Oper} (k : Keeps tm l) (hh : awpL ro P ops Q os ⟨n, l, h, ds⟩) : awpL ro P ops Q os ⟨n, tm, h, ds⟩ := awpL_weak (weak_tm k.sub) hh
theorem weak_both {l : List (Nat × AV)} {h' : H} (k : Keeps tm l) (hs : List.Sublist h' h) : Weak ⟨n, tm, h, ds⟩ ⟨n, l, h', ds⟩ := (weak_tm k.sub).trans (weak_drop hs)

/-- A loop whose states are 'mk a'. -/
theorem ploop {α : Type} {c : Code} {s : St} (mk : α → St) (inv : α → Prop) (μ : α → Nat) (a0 : α) (hw : Weak s (mk a0)) (h0 : inv a0)
    (round : ∀ a, inv a → awp ro P c (thenA (fun s2 => ∃ a', μ a' < μ a ∧ inv a' ∧ Weak s2 (mk a')) Q) (mk a)) : awp ro P (.loop c) Q s := by
  refine awp_weak hw ?_
  refine awp_loop (fun k s' => ∃ a, k = μ a ∧ inv a ∧ Weak s' (mk a)) (μ a0) ⟨a0, rfl, h0, Weak.refl _⟩ ?_
  rintro k s' ⟨a, rfl, hi, hw'⟩
  refine awp_weak hw' (awp_mono (round a hi) ?_)
  intro e s2 q
  cases e with
  | normal => obtain ⟨a', h1, h2, h3⟩ := q; exact ⟨μ a', h1, a', rfl, h2, h3⟩
  | exit id => exact q
  | goto l => exact q
  | ret => exact q
  | panic ch => exact q
  | outgrown => exact q
end printed

/-! ### types -/
def ScT (P : Program) (t : TypeId) : Prop := ∃ d, P.underlying t = some d ∧ aggTy d = false
def AgT (P : Program) (t : TypeId) (n : Nat) : Prop := ∃ d, P.underlying t = some d ∧ aggTy d = true ∧ ∀ w, (sizeOf t).run P w = .ok n w
def FldT (P : Program) (t : TypeId) (f off : Nat) : Prop := ∃ fs fd n, P.underlying t = some (.struct fs) ∧ fs[f]? = some fd ∧ (∀ w, (sizeOf fd.type).run P w = .ok (n + 1) w) ∧ fd.offset = off
def SlT (P : Program) (t : TypeId) (e n : Nat) : Prop := P.underlying t = some (.slice e) ∧ ∀ w, (sizeOf e).run P w = .ok n w

section pops
variable {ro : Option Nat} {P : Program} {h : H} {ρ : Operand → AV} {o : Oper} {av : AV}
theorem p_load1 {x : Operand} {t : TypeId} (ht : ScT P t) {i g off : Nat} {b : Blk} (ho : o.op = .load t x) (hx : ρ x = .ptr g off) (hi : h[i]? = some (g, b)) (hc : b.at off av) : OpV ro P h ρ o av := by
  obtain ⟨d, h1, h2⟩ := ht
  exact opv_load1 h1 h2 ho hx hi hc
theorem p_load1f {x : Operand} {t : TypeId} (ht : ScT P t) {c : D} {r : List D} (ho : o.op = .load t x) (hx : ρ x = .fptr (c :: r)) : OpV ro P h ρ o (.d c) := by
  obtain ⟨d, h1, h2⟩ := ht
  exact opv_load1_f h1 h2 ho hx rfl
theorem at_var {e : TypeId} {cells cs : List AV} {off : Nat} (hc : (cells.drop off).take cs.length = cs) : ∀ j c, cs[j]? = some c → (Blk.var e cells).at (off + j) c := by
  intro j c hj
  refine .var rfl ?_
  have hlt : j < cs.length := (List.getElem?_eq_some_iff.1 hj).1
  rw [← hc, List.getElem?_take, if_pos hlt, List.getElem?_drop] at hj
  exact hj
theorem p_loadn {x : Operand} {t : TypeId} {n : Nat} (ht : AgT P t n) {i g off : Nat} {e : TypeId} {cells cs : List AV} (ho : o.op = .load t x) (hx : ρ x = .ptr g off) (hi : h[i]? = some (g, .var e cells)) (hc : (cells.drop off).take n = cs) (hn : cs.length = n) : OpV ro P h ρ o (.agg cs) := by
  obtain ⟨d, h1, h2, h3⟩ := ht
  exact opv_loadn h1 h2 h3 ho hx hi (at_var (by rw [hn]; exact hc)) hn rfl
theorem p_loadnf {x : Operand} {t : TypeId} {n : Nat} (ht : AgT P t n) {cs : List D} {l : List AV} (ho : o.op = .load t x) (hx : ρ x = .fptr cs) (hn : n ≤ cs.length) (hl : (cs.take n).map AV.d = l) : OpV ro P h ρ o (.agg l) := by
  obtain ⟨d, h1, h2, h3⟩ := ht
  exact opv_loadn_f h1 h2 h3 ho hx hn (by rw [hl])
theorem p_field {x : Operand} {t : TypeId} {f fo off off' g : Nat} (ht : FldT P t f fo) (ho : o.op = .fieldAddr t x f) (hx : ρ x = .ptr g off) (hoff : off + fo = off') : OpV ro P h ρ o (.ptr g off') := by
  obtain ⟨fs, fd, n, h1, h2, h3, h4⟩ := ht
  exact opv_fieldAddr h1 h2 h3 ho hx (by rw [h4, hoff])
theorem p_fieldf {x : Operand} {t : TypeId} {f fo : Nat} {cs l : List D} (ht : FldT P t f fo) (ho : o.op = .fieldAddr t x f) (hx : ρ x = .fptr cs) (hl : cs.drop fo = l) : OpV ro P h ρ o (.fptr l) := by
  obtain ⟨fs, fd, n, h1, h2, h3, h4⟩ := ht
  exact opv_fieldAddr_f h1 h2 h3 ho hx (by rw [h4, hl])
theorem p_index {x y : Operand} {t e n : Nat} (ht : SlT P t e n) {xs : List (List D)} {r : List D} {k : IntKind} {i : Int} (ho : o.op = .indexAddr t x y) (hx : ρ x = .d (.sl xs)) (hy : ρ y = .d (.i k i)) (h0 : 0 ≤ i) (hr : xs[i.toNat]? = some r) (hn : r.length = n) : OpV ro P h ρ o (.fptr r) :=
  opv_indexAddr ht.1 ht.2 ho hx hy h0 hr hn rfl
theorem p_indexo {x y : Operand} {t e n : Nat} (ht : SlT P t e n) {g off len cap off' : Nat} {k : IntKind} {i : Int} (ho : o.op = .indexAddr t x y) (hx : ρ x = .own g off len cap) (hy : ρ y = .d (.i k i)) (h0 : 0 ≤ i) (hi : i < len) (ho' : off + i.toNat * n = off') : OpV ro P h ρ o (.ptr g off') :=
  opv_indexAddr_own ht.1 ht.2 ho hx hy h0 hi (by rw [ho'])
end pops

/-! ### structs made -/
def fillA (place : Nat → Option (Nat × Nat)) (cells : List AV) : List (Nat × AV) → Option (List AV)
  | [] => some cells
  | (i, v) :: rest =>
    match place i with
    | none => none
    | some (off, size) => if v.cs.length = size ∧ off + v.cs.length ≤ cells.length then fillA place (splice cells off v.cs) rest else none

theorem foldl_set (us : List Value) : ∀ (k off : Nat) (cur : Array Value), off + k + us.length ≤ cur.size → ((us.zipIdx k).foldl (fun cs (c, j) => cs.setIfInBounds (off + j) c) cur).toList = splice cur.toList (off + k) us := by
  induction us with
  | nil => intro k off cur _; simp [splice]
  | cons u us ih =>
    intro k off cur hl
    simp only [List.zipIdx_cons, List.foldl_cons]
    rw [ih (k + 1) off _ (by simp at hl ⊢; omega)]
    simp only [List.length_cons] at hl
    rw [Array.toList_setIfInBounds]
    apply List.ext_getElem?
    intro j
    have hsz : cur.toList.length = cur.size := by simp
    rw [splice_at (by simp; omega), splice_at (by simp; omega)]
    simp only [List.length_cons, List.getElem?_set]
    by_cases h1 : j < off + k
    · rw [if_pos (by omega), if_pos h1, if_neg (by omega)]
    · rw [if_neg h1]
      by_cases h2 : j = off + k
      · subst h2
        rw [if_pos (by omega), if_pos rfl, if_pos (by simp; omega), if_pos (by omega)]
        simp
      · by_cases h3 : j < off + k + (us.length + 1)
        · rw [if_neg (by omega), if_pos (by omega), if_pos h3]
          rw [show j - (off + k) = (j - (off + (k + 1))) + 1 by omega]
          simp
        · rw [if_neg (by omega), if_neg (by omega), if_neg h3, if_neg (by omega)]

theorem fill_rel {Y : Nat → Prop} {w : World} {place : Nat → Option (Nat × Nat)} : ∀ {parts : List (Nat × AV)} {vparts : List (Nat × Value)} {cells cs : List AV} {cur : Array Value},
    vparts.length = parts.length → (∀ (j : Nat) (p : Nat × AV) (q : Nat × Value), parts[j]? = some p → vparts[j]? = some q → q.1 = p.1 ∧ AVR Y w p.2 q.2 ∧ ∀ c, c ∈ p.2.cs → c.one = true) → AVs Y w cells cur.toList → fillA place cells parts = some cs →
    ∃ out, Instr.fill place cur vparts = some out ∧ AVs Y w cs out.toList := by
  intro parts
  induction parts with
  | nil =>
    intro vparts cells cs cur hl _ hA hf
    have : vparts = [] := List.eq_nil_of_length_eq_zero (by simpa using hl)
    subst this
    simp [fillA] at hf; subst hf
    exact ⟨cur, rfl, hA⟩
  | cons p parts ih =>
    intro vparts cells cs cur hl hp hA hf
    cases vparts with
    | nil => simp at hl
    | cons q vparts =>
      obtain ⟨hq1, hq2, hq3⟩ := hp 0 p q (by simp) (by simp)
      obtain ⟨i, v⟩ := p
      obtain ⟨i', u⟩ := q
      simp only at hq1 hq2 hq3
      subst hq1
      simp only [fillA] at hf
      cases hpl : place i' with
      | none => rw [hpl] at hf; cases hf
      | some z =>
        obtain ⟨off, size⟩ := z
        rw [hpl] at hf
        simp only at hf
        split at hf
        · rename_i hc
          have hcs := (cs_cells hq2 hq3).1
          have hsz : u.cells.size = v.cs.length := by have := hcs.1; simpa using this
          have hcur : cur.size = cells.length := by have := hA.1; simpa using this
          have hle : off + u.cells.toList.length ≤ cur.size := by rw [hcs.1, hcur]; exact hc.2
          have hfold := foldl_set u.cells.toList 0 off cur (by simpa using hle)
          simp only [Nat.add_zero] at hfold
          have e : (u.cells.zipIdx.foldl (fun cs (c, j) => cs.setIfInBounds (off + j) c) cur).toList = splice cur.toList off u.cells.toList := by
            rw [← Array.foldl_toList, Array.toList_zipIdx]
            exact hfold
          obtain ⟨out, h1, h2⟩ := ih (vparts := vparts) (cells := splice cells off v.cs) (cs := cs) (cur := u.cells.zipIdx.foldl (fun cs (c, j) => cs.setIfInBounds (off + j) c) cur)
            (by simpa using hl) (fun j p q hp' hq' => hp (j + 1) p q (by simpa using hp') (by simpa using hq')) (by rw [e]; exact hA.splice hcs off) hf
          refine ⟨out, ?_, h2⟩
          simp only [Instr.fill, hpl]
          rw [if_neg (by simp only [ne_eq, Bool.or_eq_true, decide_eq_true_eq]; rw [hsz, hcur]; omega)]
          exact h1
        · cases hf

/-- The places of a struct's fields, and its zero cells. -/
def BldT (P : Program) (t : TypeId) (places : List (Nat × Nat)) (z : List AV) : Prop :=
  ∃ fs zv, P.underlying t = some (.struct fs) ∧ (∀ w, (zeroValue t).run P w = .ok zv w) ∧ zv.cells.toList.map constAV = z ∧ (∀ w, (fs.mapM (m := Sem) fun f => do pure (f.offset, ← sizeOf f.type)).run P w = .ok places.toArray w)

section popb
variable {ro : Option Nat} {P : Program} {h : H} {tm : List (Nat × AV)} {o : Oper} {av : AV}
inductive Parts (tm : List (Nat × AV)) : List (Nat × Operand) → List (Nat × AV) → Prop where
  | nil : Parts tm [] []
  | cons {i : Nat} {x : Operand} {v : AV} {l : List (Nat × Operand)} {vs : List (Nat × AV)} (h : Ev tm x v) (k : Parts tm l vs) : Parts tm ((i, x) :: l) ((i, v) :: vs)
theorem Parts.spec {l : List (Nat × Operand)} {vs : List (Nat × AV)} (hp : Parts tm l vs) : vs = l.map fun p => (p.1, evT tm p.2) := by
  induction hp with
  | nil => rfl
  | cons h _ ih => simp [h.eq, ih]
theorem const_zero {Y : Nat → Prop} {w : World} (l : List Value) : AVs Y w (l.map constAV) l := ⟨by simp, fun i c v hc hv => by
  rw [List.getElem?_map, hv] at hc
  simp at hc; subst hc; exact constAV_spec _ _ v⟩
theorem p_build {t : TypeId} {parts : List (Nat × Operand)} {places : List (Nat × Nat)} {z cs : List AV} {vs : List (Nat × AV)} (ht : BldT P t places z) (ho : o.op = .build t parts.toArray) (hp : Parts tm parts vs) (h1 : ∀ p, p ∈ vs → ∀ c, c ∈ p.2.cs → c.one = true) (hf : fillA (places[·]?) z vs = some cs) : OpV ro P h (evT tm) o (.agg cs) := by
  obtain ⟨fs, zv, hu, hz, hzc, hpl⟩ := ht
  refine opv_pure (by simp [ho]) fun X w a hr hops => ?_
  have hspec := hp.spec
  subst hzc
  obtain ⟨out, hfill, hA⟩ := fill_rel (Y := Xh X h) (w := w) (place := (places[·]?)) (parts := vs) (vparts := parts.map fun p => (p.1, a.eval p.2)) (cells := zv.cells.toList.map constAV) (cur := zv.cells) (cs := cs)
    (by rw [hspec]; simp) (fun j p q hp' hq' => by
      rw [hspec, List.getElem?_map] at hp'
      rw [List.getElem?_map] at hq'
      cases hj : parts[j]? with
      | none => rw [hj] at hp'; simp at hp'
      | some y =>
        rw [hj] at hp' hq'
        simp at hp' hq'
        subst hp'; subst hq'
        refine ⟨rfl, hops y.2 ?_, fun c hc => h1 (y.1, evT tm y.2) ?_ c hc⟩
        · simp [ho, Op.operands]; exact ⟨_, List.mem_of_getElem? hj⟩
        · rw [hspec]; exact List.mem_map.2 ⟨y, List.mem_of_getElem? hj, rfl⟩) (const_zero _) hf
  refine ⟨.agg out, ?_, ?_⟩
  · have hfill' : Instr.fill (fun i => places.toArray[i]?) zv.cells (parts.map fun p => (p.1, a.eval p.2)) = some out := by simpa using hfill
    have hpl2 := hpl
    simp at hpl2 hfill'
    simp [execOp, ho, Instr.build, hz, run_underlying hu, hpl2, hfill', Result.andThen]
  · have := hA.agg
    simpa using this
end popb
end Go.Proofs.YtjnkbmodcddbkaaDoor
