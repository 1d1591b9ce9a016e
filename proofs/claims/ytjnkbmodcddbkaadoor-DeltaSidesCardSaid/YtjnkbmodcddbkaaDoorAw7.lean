/- A logic of abstract states. Part 7: regions that draw their order. -/
import Derived.Test.YtjnkbmodcddbkaaDoorAw6
import Derived.Laws.StructEq
set_option linter.unusedVariables false
set_option linter.unusedSimpArgs false
namespace Go.Proofs.YtjnkbmodcddbkaaDoor
open Go Go.RowKit

/-- Whatever order is drawn from here on. -/
def AnyS (ro : Option Nat) (P : Program) (ops : Array Oper) (Q : Exit → St → Prop) (fuel : Nat) (listed : Array Bool) (s : St) : Prop :=
  ∀ (X : Nat → Prop) (w : World) (a : Act), SR X w s a → wpAnyIn (AF ro) 0 P .any ops (postA X s w Q) fuel listed a w

section
variable {ro : Option Nat} {P : Program} {ops : Array Oper} {Q : Exit → St → Prop} {n : Nat} {h : H} {ds : List Nat}

theorem drawn_keep {X : Nat → Prop} {w : World} {s : St} {a : Act} (hs : SR X w s a) : SR X { w with drawn := w.drawn + 1 } s a ∧ Step s.h s.h w { w with drawn := w.drawn + 1 } := by
  have := hs.rel.same (w' := { w with drawn := w.drawn + 1 }) rfl rfl rfl (Nat.le_refl _) (fun _ _ => rfl)
  exact ⟨⟨this.1, hs.size, fun t => (hs.tm t).mono this.2.keeps, hs.ds⟩, this.2⟩
theorem wpAny_post {F : Fence} {k : Nat} {Q1 Q2 : Exit → Act → World → Prop} (hq : ∀ e a w, Q1 e a w → Q2 e a w) : ∀ (fuel : Nat) (listed : Array Bool) (a : Act) (w : World), wpAnyIn F k P .any ops Q1 fuel listed a w → wpAnyIn F k P .any ops Q2 fuel listed a w
  | 0, listed, a, w, h => ⟨h.1, hq _ _ _ h.2⟩
  | fuel + 1, listed, a, w, h => ⟨fun h0 => hq _ _ _ (h.1 h0), fun i hi => by
      have h2 := h.2 i hi
      unfold wpOpIn at h2 ⊢
      split
      · rename_i ho; simp only [ho] at h2; exact wpAny_post hq fuel _ _ _ h2
      · rename_i o ho
        simp only [ho] at h2
        split
        · rename_i hw
          simp only [hw, if_true] at h2
          refine ⟨h2.1, ?_⟩
          have h3 := (Oper.wpIn_mono (fun a w => wpAny_post hq fuel _ a w) h2).2
          generalize (o.semAt F.round a.eval).run P w = r at *
          cases r with
          | ok x w' =>
            cases x <;> simp only [Oper.uponIn] at h3 ⊢ <;> first
              | exact h3
              | exact ⟨h3.1, CallsIn.mono h3.2 (fun e w'' he => by cases e <;> first | exact he | exact hq _ _ _ he | (obtain ⟨a0, w0, q0⟩ := he; exact ⟨a0, w0, hq _ _ _ q0⟩))⟩
              | exact ⟨h3.1, RoundIn.mono h3.2 (fun e w'' he => by cases e <;> first | exact he | exact hq _ _ _ he | (obtain ⟨a0, w0, q0⟩ := he; exact ⟨a0, w0, hq _ _ _ q0⟩))⟩
          | halt x w' => cases x <;> simp only [Oper.uponIn] at h3 ⊢ <;> first | exact h3 | exact hq _ _ _ h3
        · rename_i hw
          simp only [hw] at h2
          exact ⟨h2.1, wpAny_post hq fuel _ _ _ h2.2⟩⟩
/-- The region. -/
theorem awp_draw {id : Nat} {l : List Oper} {s : St} (hm : P.follows .mixedOrders = true) (hh : AnyS ro P l.toArray Q l.length (Array.replicate l.length false) s) : awp ro P (.region id l.toArray true) Q s := by
  intro X w a hs
  obtain ⟨h1, st⟩ := drawn_keep hs
  refine wpIn_region_any hm ?_
  have := hh X _ a h1
  simp only [List.size_toArray]
  exact wpAny_post (fun e a' w' ⟨s', q, r, st2⟩ => ⟨s', q, r, st.trans st2⟩) _ _ _ _ this
/-- All are through. -/
theorem any_done {fuel : Nat} {listed : Array Bool} {s : St} (hr : Region.ready .any ops listed = []) (hq : Q .normal s) : AnyS ro P ops Q fuel listed s := by
  intro X w a hs
  cases fuel with
  | zero => exact ⟨hr, s, hq, hs, Step.refl _ _⟩
  | succ f => exact ⟨fun _ => ⟨s, hq, hs, Step.refl _ _⟩, fun i hi => by rw [hr] at hi; cases hi⟩
/-- One alone may come up. -/
theorem any_only {fuel : Nat} {listed : Array Bool} {s : St} {i : Nat} {o : Oper} (hr : Region.ready .any ops listed = [i]) (ho : ops[i]? = some o) (hrun : Runs ops s o true) (h1 : OpA ro P s o (AnyS ro P ops Q fuel (listed.setIfInBounds i true))) : AnyS ro P ops Q (fuel + 1) listed s := by
  intro X w a hs
  refine ⟨fun h0 => (by rw [hr] at h0; cases h0), fun j hj => ?_⟩
  rw [hr] at hj
  obtain rfl : j = i := by simpa using hj
  unfold wpOpIn
  simp only [ho]
  rw [if_pos (hrun.spec hs)]
  refine Oper.wpIn_mono (fun a' w' ⟨s', q, r, st⟩ => ?_) (h1 X w a _ hs)
  exact wpAny_post (fun e a2 w2 ⟨s2, q2, r2, st2⟩ => ⟨s2, q2, r2, st.trans st2⟩) _ _ _ _ (q X w' a' r)

/-! ### several that only yield values -/
def putT (tm : List (Nat × AV)) : Option Tmp → AV → List (Nat × AV)
  | some d, v => (d, v) :: tm
  | none, _ => tm
/-- Alike, slot by slot. -/
def Same (a b : List (Nat × AV)) : Prop := ∀ t, look a t = look b t
theorem Same.put {a b : List (Nat × AV)} (k : Same a b) (d : Option Tmp) (v : AV) : Same (putT a d v) (putT b d v) := by
  cases d with
  | none => exact k
  | some d => intro t; simp only [putT, look_cons]; rw [k t]
theorem Same.swap (tm : List (Nat × AV)) {d e : Option Tmp} (hde : ∀ x, d = some x → e ≠ some x) (v u : AV) : Same (putT (putT tm d v) e u) (putT (putT tm e u) d v) := by
  cases d with
  | none => intro t; rfl
  | some d =>
    cases e with
    | none => intro t; rfl
    | some e =>
      have hne : d ≠ e := fun h => hde d rfl (by rw [h])
      intro t
      simp only [putT, look_cons]
      by_cases h1 : e = t
      · subst h1; rw [if_pos rfl, if_neg hne, if_pos rfl]
      · by_cases h2 : d = t
        · subst h2; rw [if_neg h1, if_pos rfl, if_pos rfl]
        · rw [if_neg h1, if_neg h2, if_neg h2, if_neg h1]
theorem AnyS.same {fuel : Nat} {listed : Array Bool} {a b : List (Nat × AV)} (k : Same a b) (hh : AnyS ro P ops Q fuel listed ⟨n, a, h, ds⟩) : AnyS ro P ops Q fuel listed ⟨n, b, h, ds⟩ := by
  intro X w x hs
  have : SR X w ⟨n, a, h, ds⟩ x := ⟨hs.rel, hs.size, fun t => by have := hs.tm t; show AVR _ _ (look a t) _; rw [k t]; exact this, hs.ds⟩
  exact hh X w x this

/-- What an operation yields in such a state. -/
def QY (ro : Option Nat) (P : Program) (ops : Array Oper) (n : Nat) (h : H) (ds : List Nat) (tm : List (Nat × AV)) (o : Oper) (av : AV) : Prop :=
  (Runs ops ⟨n, tm, h, ds⟩ o true ∧ OpV ro P h (evT tm) o av) ∨ (Runs ops ⟨n, tm, h, ds⟩ o false ∧ av = .tup [])
theorem evT_same {a b : List (Nat × AV)} {o : Oper} (k : ∀ t, t ∈ o.looksAt ops → look a t = look b t) : ∀ x, x ∈ o.op.operands → evT a x = evT b x := by
  intro x hx
  cases x with
  | tmp t => exact k t (List.mem_append_left _ (List.mem_filterMap.2 ⟨.tmp t, by simpa using hx, rfl⟩))
  | const v => rfl
  | global g => rfl
  | func f => rfl
theorem Runs.congr {a b : List (Nat × AV)} {o : Oper} {r : Bool} (k : ∀ t, t ∈ o.looksAt ops → look a t = look b t) (hr : Runs ops ⟨n, a, h, ds⟩ o r) : Runs ops ⟨n, b, h, ds⟩ o r := by
  cases hr with
  | plain hg => exact .plain hg
  | und hg hj hl =>
    rename_i j t want
    refine .und hg hj ?_
    have : t ∈ o.looksAt ops := by
      unfold Oper.looksAt
      refine List.mem_append_right _ ?_
      rw [hg]
      simp [hj]
    show look b t = _
    rw [← k t this]; exact hl
  | guard hg hj hl hb =>
    rename_i j t want x
    refine .guard hg hj ?_ hb
    have : t ∈ o.looksAt ops := by
      unfold Oper.looksAt
      refine List.mem_append_right _ ?_
      rw [hg]
      simp [hj]
    show look b t = _
    rw [← k t this]; exact hl
theorem QY.congr {a b : List (Nat × AV)} {o : Oper} {av : AV} (k : ∀ t, t ∈ o.looksAt ops → look a t = look b t) (hq : QY ro P ops n h ds a o av) : QY ro P ops n h ds b o av := by
  rcases hq with ⟨h1, h2⟩ | ⟨h1, h2⟩
  · refine .inl ⟨h1.congr k, fun X w x K Q' hr hops hk => h2 X w x K Q' hr (fun y hy => ?_) hk⟩
    rw [evT_same k y hy]; exact hops y hy
  · exact .inr ⟨h1.congr k, h2⟩
theorem look_putT {tm : List (Nat × AV)} {d : Option Tmp} {v : AV} {t : Nat} (hd : ∀ x, d = some x → x ≠ t) : look (putT tm d v) t = look tm t := by
  cases d with
  | none => rfl
  | some d => simp only [putT, look_cons]; rw [if_neg (hd d rfl)]

/-- An operation of whatever outcome: values and heaps that are good. -/
def OpX (ro : Option Nat) (P : Program) (h : H) (ρ : Operand → AV) (o : Oper) (Good : AV → H → Prop) : Prop :=
  ∀ (X : Nat → Prop) (w : World) (a : Act) (K : Act → World → Prop) (Q' : Exit → Act → World → Prop), Rel X w h → (∀ x, x ∈ o.op.operands → AVR (Xh X h) w (ρ x) (a.eval x)) →
    (∀ v w' av h', Good av h' → AVR (Xh X h') w' av v → Rel X w' h' → Step h h' w w' → K (a.put o.dst v) w') → o.wpIn (AF ro) 0 P a w K Q'
theorem OpX.congr {a b : List (Nat × AV)} {o : Oper} {Good : AV → H → Prop} (k : ∀ t, t ∈ o.looksAt ops → look a t = look b t) (hx : OpX ro P h (evT a) o Good) : OpX ro P h (evT b) o Good :=
  fun X w x K Q' hr hops hk => hx X w x K Q' hr (fun y hy => by rw [evT_same k y hy]; exact hops y hy) hk
theorem opx_mono {ρ : Operand → AV} {o : Oper} {G G' : AV → H → Prop} (hx : OpX ro P h ρ o G) (hg : ∀ av h', G av h' → G' av h') : OpX ro P h ρ o G' :=
  fun X w x K Q' hr hops hk => hx X w x K Q' hr hops (fun v w' av h' g => hk v w' av h' (hg _ _ g))
theorem opx_v {ρ : Operand → AV} {o : Oper} {av : AV} (hv : OpV ro P h ρ o av) : OpX ro P h ρ o (fun a h' => a = av ∧ h' = h) :=
  fun X w x K Q' hr hops hk => hv X w x K Q' hr hops (fun v w' hA hr' st => hk v w' av h ⟨rfl, rfl⟩ hA hr' st)
theorem opx_val {ρ : Operand → AV} {o : Oper} {Good : AV → H → Prop} (hnd : ∀ c, o.op ≠ .defer c)
    (hh : ∀ (X : Nat → Prop) (w : World) (a : Act), Rel X w h → (∀ x, x ∈ o.op.operands → AVR (Xh X h) w (ρ x) (a.eval x)) → ∃ v w' h' av, (execOp a.eval o).run P w = .ok (.value v) w' ∧ Good av h' ∧ Rel X w' h' ∧ Step h h' w w' ∧ AVR (Xh X h') w' av v) : OpX ro P h ρ o Good := by
  intro X w a K Q' hr hops hk
  obtain ⟨v, w', h', av, hrun, hg, hr', st, hA⟩ := hh X w a hr hops
  refine ⟨fun _ _ => trivial, ?_⟩
  rw [semAt_any hnd, hrun]
  exact hk v w' av h' hg hA hr' st
theorem opx_skip {ρ : Operand → AV} {o : Oper} {Good : AV → H → Prop} (hnd : ∀ c, o.op ≠ .defer c)
    (hh : ∀ (X : Nat → Prop) (w : World) (a : Act), Rel X w h → (∀ x, x ∈ o.op.operands → AVR (Xh X h) w (ρ x) (a.eval x)) → ∃ w' h', (execOp a.eval o).run P w = .ok .skip w' ∧ Good .junk h' ∧ Rel X w' h' ∧ Step h h' w w') : OpX ro P h ρ o Good := by
  intro X w a K Q' hr hops hk
  obtain ⟨w', h', hrun, hg, hr', st⟩ := hh X w a hr hops
  refine ⟨fun _ _ => trivial, ?_⟩
  rw [semAt_any hnd, hrun]
  exact hk undef w' .junk h' hg (.junk _) hr' st

theorem opa_x {s : St} {o : Oper} {Good : AV → H → Prop} {K : St → Prop} (hd : ∀ d, o.dst = some d → d < s.n) (hx : OpX ro P s.h s.ev o Good) (hk : ∀ av h', Good av h' → K (({ s with h := h' } : St).put o.dst av)) : OpA ro P s o K := by
  intro X w a Q' hs
  refine hx X w a _ Q' hs.rel (fun x _ => hs.ev x) (fun v w' av h' hg hA hr st => ?_)
  exact ⟨_, hk av h' hg, hs.mk_put hr st hd hA, by rw [put_h]; exact st⟩

/-! ### every order, abstractly -/
/-- The leaf: alike whatever the order of the slots. -/
def Lf (Q : Exit → St → Prop) (n : Nat) (ds : List Nat) (tm : List (Nat × AV)) (h : H) : Prop := ∀ (X : Nat → Prop) (w : World) (a : Act), SR X w ⟨n, tm, h, ds⟩ a → ∃ s', Q .normal s' ∧ SR X w s' a ∧ Step h s'.h w w
theorem Lf.same {a b : List (Nat × AV)} (k : Same a b) (hh : Lf Q n ds a h) : Lf Q n ds b h :=
  fun X w x hs => hh X w x ⟨hs.rel, hs.size, fun t => by have := hs.tm t; show AVR _ _ (look a t) _; rw [k t]; exact this, hs.ds⟩

def GT (ro : Option Nat) (P : Program) (ops : Array Oper) (Q : Exit → St → Prop) (n : Nat) (ds : List Nat) (C : H → Prop) : Nat → Array Bool → List (Nat × AV) → H → Prop
  | 0, listed, tm, h => Region.ready .any ops listed = [] ∧ Lf Q n ds tm h
  | f + 1, listed, tm, h => (Region.ready .any ops listed = [] → Lf Q n ds tm h) ∧ ∀ i, i ∈ Region.ready .any ops listed → ∃ o, ops[i]? = some o ∧
      ((∃ av, QY ro P ops n h ds tm o av ∧ GT ro P ops Q n ds C f (listed.setIfInBounds i true) (putT tm o.dst av) h) ∨
       (Runs ops ⟨n, tm, h, ds⟩ o true ∧ ∃ Good, OpX ro P h (evT tm) o Good ∧ ∀ av h', Good av h' → C h' ∧ GT ro P ops Q n ds C f (listed.setIfInBounds i true) (putT tm o.dst av) h'))
variable {C : H → Prop}
theorem Runs.same {a b : List (Nat × AV)} {o : Oper} {r : Bool} (k : Same a b) (hr : Runs ops ⟨n, a, h, ds⟩ o r) : Runs ops ⟨n, b, h, ds⟩ o r := hr.congr (fun t _ => k t)
theorem Runs.heap {a : List (Nat × AV)} {o : Oper} {r : Bool} {h' : H} (hr : Runs ops ⟨n, a, h, ds⟩ o r) : Runs ops ⟨n, a, h', ds⟩ o r := by
  cases hr with
  | plain hg => exact .plain hg
  | und hg hj hl => exact .und hg hj hl
  | guard hg hj hl hb => exact .guard hg hj hl hb
theorem GT.same : ∀ (f : Nat) (listed : Array Bool) (a b : List (Nat × AV)) (h : H), Same a b → GT ro P ops Q n ds C f listed a h → GT ro P ops Q n ds C f listed b h
  | 0, listed, a, b, h, k, hh => ⟨hh.1, hh.2.same k⟩
  | f + 1, listed, a, b, h, k, hh => ⟨fun h0 => (hh.1 h0).same k, fun i hi => by
      obtain ⟨o, ho, hor⟩ := hh.2 i hi
      refine ⟨o, ho, hor.imp ?_ ?_⟩
      · rintro ⟨av, hq, hr⟩
        exact ⟨av, hq.congr (fun t _ => k t), GT.same f _ _ _ _ (k.put _ _) hr⟩
      · rintro ⟨hr, Good, hx, hk⟩
        exact ⟨hr.same k, Good, hx.congr (ops := ops) (fun t _ => k t), fun av h' hg => ⟨(hk av h' hg).1, GT.same f _ _ _ _ (k.put _ _) (hk av h' hg).2⟩⟩⟩
theorem putT_put (tm : List (Nat × AV)) (h h' : H) (d : Option Tmp) (v : AV) : (⟨n, putT tm d v, h', ds⟩ : St) = ({ (⟨n, tm, h, ds⟩ : St) with h := h' } : St).put d v := by cases d <;> rfl
theorem gt_sound (hd : ∀ (i : Nat) (o : Oper) (d : Tmp), ops[i]? = some o → o.dst = some d → d < n) : ∀ (f : Nat) (listed : Array Bool) (tm : List (Nat × AV)) (h : H), GT ro P ops Q n ds C f listed tm h → AnyS ro P ops Q f listed ⟨n, tm, h, ds⟩
  | 0, listed, tm, h, hh => fun X w a hs => ⟨hh.1, hh.2 X w a hs⟩
  | f + 1, listed, tm, h, hh => by
    intro X w a hs
    refine ⟨fun h0 => hh.1 h0 X w a hs, fun i hi => ?_⟩
    obtain ⟨o, ho, hor⟩ := hh.2 i hi
    unfold wpOpIn
    simp only [ho]
    rcases hor with ⟨av, hq, hrest⟩ | ⟨hr, Good, hx, hk⟩
    · have ih := gt_sound hd f _ _ _ hrest
      rcases hq with ⟨h1, h2⟩ | ⟨h1, h2⟩
      · rw [if_pos (h1.spec hs)]
        refine h2 X w a _ _ hs.rel (fun x _ => by have := hs.ev x; rwa [ev_evT] at this) (fun v w' hA hr st => ?_)
        have hs' := hs.mk_put hr st (hd i o · ho) hA
        have := ih X w' (a.put o.dst v) (by rw [putT_put tm h h]; exact hs')
        exact wpAny_post (fun e a2 w2 ⟨s2, q2, r2, st2⟩ => ⟨s2, q2, r2, st.trans st2⟩) _ _ _ _ this
      · rw [if_neg (by rw [h1.spec hs]; simp)]
        subst h2
        refine ⟨fun _ _ => trivial, ?_⟩
        have hs' := hs.mk_put (dst := o.dst) (v := undef) hs.rel (Step.refl _ _) (hd i o · ho) (AVs.tup AVs.nil)
        exact ih X w (a.put o.dst undef) (by rw [putT_put tm h h]; exact hs')
    · rw [if_pos (hr.spec hs)]
      refine hx X w a _ _ hs.rel (fun x _ => by have := hs.ev x; rwa [ev_evT] at this) (fun v w' av h' hg hA hr' st => ?_)
      have ih := gt_sound hd f _ _ _ (hk av h' hg).2
      have hs' := hs.mk_put hr' st (hd i o · ho) hA
      have := ih X w' (a.put o.dst v) (by rw [putT_put tm h h']; exact hs')
      exact wpAny_post (fun e a2 w2 ⟨s2, q2, r2, st2⟩ => ⟨s2, q2, r2, st.trans st2⟩) _ _ _ _ this

theorem ready_un {listed : Array Bool} {i : Nat} (hi : i ∈ Region.ready .any ops listed) : listed.getD i true = false := (mem_ready.1 hi).1
/-- What an operation yields in all such heaps. -/
def QS (ro : Option Nat) (P : Program) (ops : Array Oper) (n : Nat) (ds : List Nat) (C : H → Prop) (tm : List (Nat × AV)) (o : Oper) (av : AV) : Prop :=
  ((∀ h, Runs ops ⟨n, tm, h, ds⟩ o true) ∧ ∀ h, C h → OpV ro P h (evT tm) o av) ∨ ((∀ h, Runs ops ⟨n, tm, h, ds⟩ o false) ∧ av = .tup [])
theorem QS.at {tm : List (Nat × AV)} {o : Oper} {av : AV} (hq : QS ro P ops n ds C tm o av) (hC : C h) : QY ro P ops n h ds tm o av := by
  rcases hq with ⟨h1, h2⟩ | ⟨h1, h2⟩
  · exact .inl ⟨h1 h, h2 h hC⟩
  · exact .inr ⟨h1 h, h2⟩
theorem OpV.congr {a b : List (Nat × AV)} {o : Oper} {av : AV} (k : ∀ t, t ∈ o.looksAt ops → look a t = look b t) (hv : OpV ro P h (evT a) o av) : OpV ro P h (evT b) o av :=
  fun X w x K Q' hr hops hk => hv X w x K Q' hr (fun y hy => by rw [evT_same k y hy]; exact hops y hy) hk
theorem QS.congr {a b : List (Nat × AV)} {o : Oper} {av : AV} (k : ∀ t, t ∈ o.looksAt ops → look a t = look b t) (hq : QS ro P ops n ds C a o av) : QS ro P ops n ds C b o av := by
  rcases hq with ⟨h1, h2⟩ | ⟨h1, h2⟩
  · exact .inl ⟨fun h => (h1 h).congr k, fun h hC => (h2 h hC).congr (ops := ops) k⟩
  · exact .inr ⟨fun h => (h1 h).congr k, h2⟩
/-- **What is ready and yields the same in every such heap may come first.** -/
theorem gt_first {i : Nat} {oi : Oper} {av : AV} (hoi : ops[i]? = some oi) : ∀ (f : Nat) (listed : Array Bool) (tm : List (Nat × AV)) (h : H),
    (∀ j oj, ops[j]? = some oj → j ≠ i → listed.getD j true = false → (∀ e ∈ oj.after, Region.binds .any e = true → e.on ≠ i) → oi.apart ops oj = true) →
    i ∈ Region.ready .any ops listed → C h → QS ro P ops n ds C tm oi av →
    GT ro P ops Q n ds C f (listed.setIfInBounds i true) (putT tm oi.dst av) h → GT ro P ops Q n ds C (f + 1) listed tm h := by
  intro f
  induction f with
  | zero =>
    intro listed tm h hfree hi hC hq H
    refine ⟨fun h0 => (by rw [h0] at hi; cases hi), fun j hj => ?_⟩
    by_cases hji : j = i
    · subst hji; exact ⟨oi, hoi, .inl ⟨av, hq.at hC, H⟩⟩
    · have := ready_mono hj hji
      rw [H.1] at this; cases this
  | succ f ih =>
    intro listed tm h hfree hi hC hq H
    refine ⟨fun h0 => (by rw [h0] at hi; cases hi), fun j hj => ?_⟩
    by_cases hji : j = i
    · subst hji; exact ⟨oi, hoi, .inl ⟨av, hq.at hC, H⟩⟩
    · obtain ⟨oj, hoj, hor⟩ := H.2 j (ready_mono hj hji)
      obtain ⟨hjun, oj', hoj', hall⟩ := mem_ready.1 hj
      rw [hoj] at hoj'; injection hoj' with hoj'; subst hoj'
      have hnot : ∀ e ∈ oj.after, Region.binds .any e = true → e.on ≠ i := fun e he hb heq => by
        have h1 := hall e he hb
        have h0 := ready_un hi
        rw [heq] at h1
        rcases Nat.lt_or_ge i listed.size with h' | h'
        · simp [h'] at h0 h1; rw [h0] at h1; cases h1
        · simp [Array.getElem?_eq_none h'] at h1
      obtain ⟨s1, s2, s3⟩ := Oper.apart_spec (hfree j oj hoj hji hjun hnot)
      have hi2 : i ∈ Region.ready .any ops (listed.setIfInBounds j true) := ready_mono hi (Ne.symm hji)
      have hfree' : ∀ k ok, ops[k]? = some ok → k ≠ i → (listed.setIfInBounds j true).getD k true = false →
          (∀ e ∈ ok.after, Region.binds .any e = true → e.on ≠ i) → oi.apart ops ok = true := fun k ok hk hki hun hno => by
        refine hfree k ok hk hki ?_ hno
        by_cases hjk : j = k
        · subst hjk; exact hjun
        · rw [getD_set_ne true hjk] at hun; exact hun
      refine ⟨oj, hoj, ?_⟩
      rcases hor with ⟨avj, hqj, hrest⟩ | ⟨hr, Good, hx, hk⟩
      · refine .inl ⟨avj, hqj.congr (fun t ht => look_putT (fun x hx hxt => s1 x hx (hxt ▸ ht))), ?_⟩
        refine ih _ _ _ hfree' hi2 hC (hq.congr (fun t ht => (look_putT (fun x hx hxt => s3 x hx (hxt ▸ ht))).symm)) ?_
        rw [Array.setIfInBounds_comm _ _ hji]
        exact GT.same _ _ _ _ _ (Same.swap tm s2 av avj) hrest
      · refine .inr ⟨hr.congr (fun t ht => look_putT (fun x hx hxt => s1 x hx (hxt ▸ ht))), Good, hx.congr (ops := ops) (fun t ht => look_putT (fun x hx hxt => s1 x hx (hxt ▸ ht))), fun avj h' hg => ⟨(hk avj h' hg).1, ?_⟩⟩
        refine ih _ _ _ hfree' hi2 (hk avj h' hg).1 (hq.congr (fun t ht => (look_putT (fun x hx hxt => s3 x hx (hxt ▸ ht))).symm)) ?_
        rw [Array.setIfInBounds_comm _ _ hji]
        exact GT.same _ _ _ _ _ (Same.swap tm s2 av avj) (hk avj h' hg).2

def dstsOk (ops : Array Oper) (n : Nat) : Bool := ops.toList.all fun o => match o.dst with
  | some d => Nat.blt d n
  | none => true
theorem dstsOk_spec (hd : dstsOk ops n = true) : ∀ (i : Nat) (o : Oper) (d : Tmp), ops[i]? = some o → o.dst = some d → d < n := by
  intro i o d ho hdst
  have := List.all_eq_true.1 hd o (by rw [← Array.getElem?_toList] at ho; exact List.mem_of_getElem? ho)
  rw [hdst] at this
  exact Nat.le_of_ble_eq_true this

/-- Blocks that lie on. -/
def KB (kl : H) : H → Prop := fun h => ∀ p, p ∈ kl → p ∈ h
theorem kb_nil : KB [] h := fun p hp => by cases hp
theorem kb_cons {p : Nat × Blk} {kl : H} (h1 : p ∈ h) (h2 : KB kl h) : KB (p :: kl) h := fun q hq => by
  rcases List.mem_cons.1 hq with rfl | hq
  · exact h1
  · exact h2 q hq

variable {kl : H} {tm : List (Nat × AV)} {o : Oper} {d f i : Nat} {av : AV} {listed : Array Bool}
/-- The region: every order. -/
theorem g_draw {id : Nat} {l : List Oper} (hm : P.follows .mixedOrders = true) (hC : KB kl h) (hd : dstsOk l.toArray n = true) {fuel : Nat} (hl : l.length = fuel) {listed : Array Bool} (hli : Array.replicate fuel false = listed) (hh : GT ro P l.toArray Q n ds (KB kl) fuel listed tm h) : awp ro P (.region id l.toArray true) Q ⟨n, tm, h, ds⟩ := by
  subst hl; subst hli
  exact awp_draw hm (gt_sound (dstsOk_spec hd) _ _ _ _ hh)
def step (ops : Array Oper) (listed : Array Bool) (i : Nat) : Bool := (Region.ready .any ops listed).contains i && Region.free .any ops listed i
theorem g_v {listed' : Array Bool} (i : Nat) (ho : ops[i]? = some o) (hs : step ops listed i = true) (hl : listed.setIfInBounds i true = listed') (hr : ∀ h, Runs ops ⟨n, tm, h, ds⟩ o true) (hd : o.dst = some d) (hv : ∀ h, KB kl h → OpV ro P h (evT tm) o av) (hC : KB kl h) (k : GT ro P ops Q n ds (KB kl) f listed' ((d, av) :: tm) h) : GT ro P ops Q n ds (KB kl) (f + 1) listed tm h := by
  subst hl
  simp only [step, Bool.and_eq_true] at hs
  refine gt_first ho f listed tm h (Region.free_spec ho hs.2) (by simpa using hs.1) hC (.inl ⟨hr, hv⟩) ?_
  rw [hd]; exact k
theorem g_o {listed' : Array Bool} (i : Nat) (ho : ops[i]? = some o) (hs : step ops listed i = true) (hl : listed.setIfInBounds i true = listed') (hr : ∀ h, Runs ops ⟨n, tm, h, ds⟩ o false) (hd : o.dst = some d) (hC : KB kl h) (k : GT ro P ops Q n ds (KB kl) f listed' ((d, .tup []) :: tm) h) : GT ro P ops Q n ds (KB kl) (f + 1) listed tm h := by
  subst hl
  simp only [step, Bool.and_eq_true] at hs
  refine gt_first ho f listed tm h (Region.free_spec ho hs.2) (by simpa using hs.1) hC (.inr ⟨hr, rfl⟩) ?_
  rw [hd]; exact k
theorem g_o0 {listed' : Array Bool} (i : Nat) (ho : ops[i]? = some o) (hs : step ops listed i = true) (hl : listed.setIfInBounds i true = listed') (hr : ∀ h, Runs ops ⟨n, tm, h, ds⟩ o false) (hd : o.dst = none) (hC : KB kl h) (k : GT ro P ops Q n ds (KB kl) f listed' tm h) : GT ro P ops Q n ds (KB kl) (f + 1) listed tm h := by
  subst hl
  simp only [step, Bool.and_eq_true] at hs
  refine gt_first ho f listed tm h (Region.free_spec ho hs.2) (by simpa using hs.1) hC (.inr ⟨hr, rfl⟩) ?_
  rw [hd]; exact k
theorem g_end (hr : Region.ready .any ops listed = []) (hq : Q .normal ⟨n, tm, h, ds⟩) : GT ro P ops Q n ds (KB kl) f listed tm h := by
  have hL : Lf Q n ds tm h := fun X w a hs => ⟨_, hq, hs, Step.refl _ _⟩
  cases f with
  | zero => exact ⟨hr, hL⟩
  | succ f => exact ⟨fun _ => hL, fun i hi => by rw [hr] at hi; cases hi⟩
/-- One alone is ready, of whatever outcome. -/
theorem g_x {listed' : Array Bool} {Good : AV → H → Prop} (i : Nat) (hr : Region.ready .any ops listed = [i]) (ho : ops[i]? = some o) (hl : listed.setIfInBounds i true = listed') (hrun : Runs ops ⟨n, tm, h, ds⟩ o true) (hx : OpX ro P h (evT tm) o Good)
    (k : ∀ av h', Good av h' → KB kl h' ∧ GT ro P ops Q n ds (KB kl) f listed' (putT tm o.dst av) h') : GT ro P ops Q n ds (KB kl) (f + 1) listed tm h := by
  subst hl
  refine ⟨fun h0 => (by rw [hr] at h0; cases h0), fun j hj => ?_⟩
  rw [hr] at hj
  obtain rfl : j = i := by simpa using hj
  exact ⟨o, ho, .inr ⟨hrun, Good, hx, k⟩⟩
/-- Two are ready. -/
theorem g_two {i j : Nat} (hr : Region.ready .any ops listed = [i, j]) {oi oj : Oper} {Gi Gj : AV → H → Prop} {li lj : Array Bool} (hoi : ops[i]? = some oi) (hoj : ops[j]? = some oj) (hli : listed.setIfInBounds i true = li) (hlj : listed.setIfInBounds j true = lj)
    (hri : Runs ops ⟨n, tm, h, ds⟩ oi true) (hrj : Runs ops ⟨n, tm, h, ds⟩ oj true) (hxi : OpX ro P h (evT tm) oi Gi) (hxj : OpX ro P h (evT tm) oj Gj)
    (ki : ∀ av h', Gi av h' → KB kl h' ∧ GT ro P ops Q n ds (KB kl) f li (putT tm oi.dst av) h') (kj : ∀ av h', Gj av h' → KB kl h' ∧ GT ro P ops Q n ds (KB kl) f lj (putT tm oj.dst av) h') : GT ro P ops Q n ds (KB kl) (f + 1) listed tm h := by
  subst hli; subst hlj
  refine ⟨fun h0 => (by rw [hr] at h0; cases h0), fun k hk => ?_⟩
  rw [hr] at hk
  simp at hk
  rcases hk with rfl | rfl
  · exact ⟨oi, hoi, .inr ⟨hri, Gi, hxi, ki⟩⟩
  · exact ⟨oj, hoj, .inr ⟨hrj, Gj, hxj, kj⟩⟩
theorem gsplit {t : Nat} {x : Bool} (hl : Look tm t (.d (.b x))) (h1 : x = true → GT ro P ops Q n ds (KB kl) f listed tm h) (h2 : x = false → GT ro P ops Q n ds (KB kl) f listed tm h) : GT ro P ops Q n ds (KB kl) f listed tm h := by
  cases hx : x with
  | true => exact h1 hx
  | false => exact h2 hx
/-- The list form. -/
theorem l_x {rest : List Oper} {Good : AV → H → Prop} (hr : Runs ops ⟨n, tm, h, ds⟩ o true) (hd : ∀ d, o.dst = some d → d < n) (hx : OpX ro P h (evT tm) o Good) (k : ∀ av h', Good av h' → awpL ro P ops Q rest ⟨n, putT tm o.dst av, h', ds⟩) : awpL ro P ops Q (o :: rest) ⟨n, tm, h, ds⟩ :=
  awpL_op hr (opa_x hd (by rw [ev_evT]; exact hx) (fun av h' hg => by have := k av h' hg; rwa [putT_put tm h h'] at this))

/-! ### operations of whatever outcome, in this form -/
theorem x_alloc {e : TypeId} {cells : List AV} (hz : ZT P e cells) (ho : o.op = .alloc e) : OpX ro P h (evT tm) o (fun av h' => ∃ g, g ∉ keys h ∧ av = .ptr g 0 ∧ h' = (g, .var e cells) :: h) := by
  obtain ⟨z, hz, hc⟩ := hz
  refine opx_val (by simp [ho]) fun X w a hr hops => ?_
  subst hc
  obtain ⟨hr', st⟩ := alloc_new (e := e) hr (const_zero z.cells.toList)
  exact ⟨_, _, _, .ptr w.heap.size 0, by simp [execOp, ho, Instr.alloc, hz, run_newVar, Result.andThen], ⟨_, fun hm => (by have := hr.lt _ hm; omega), rfl, rfl⟩, hr', st, .ptr _ _⟩
theorem x_box {e : TypeId} {x : Operand} {cv : AV} {cs : List AV} (ho : o.op = .box e x) (hx : Ev tm x cv) (hcs : cv.cs = cs) (h1 : cs.all AV.one = true) : OpX ro P h (evT tm) o (fun av h' => ∃ g, g ∉ keys h ∧ av = .ptr g 0 ∧ h' = (g, .var e cs) :: h) := by
  subst hcs
  refine opx_val (by simp [ho]) fun X w a hr hops => ?_
  have h2 := hops x (by simp [ho, Op.operands])
  rw [hx.eq] at h2
  obtain ⟨hr', st⟩ := alloc_new (e := e) hr (cs_cells h2 (fun c hc => List.all_eq_true.1 h1 c hc)).1
  exact ⟨_, _, _, .ptr w.heap.size 0, by simp [execOp, ho, Instr.box, run_newVar, Result.andThen], ⟨_, fun hm => (by have := hr.lt _ hm; omega), rfl, rfl⟩, hr', st, .ptr _ _⟩
theorem opx_store {ρ : Operand → AV} {t : TypeId} {x y : Operand} {i g off n : Nat} {b b' : Blk} {cv : AV} {cs : List AV} {o : Oper} (ho : o.op = .store t x y) (hx : ρ x = .ptr g off) (hy : ρ y = cv) (hcs : cv.cs = cs) (h1 : ∀ c, c ∈ cs → c.one = true)
    (hs : ∀ w, (sizeOf t).run P w = .ok n w) (hn : cs.length = n) (hi : h[i]? = some (g, b)) (hb : b.stored off cs b') : OpX ro P h ρ o (fun _ h' => h' = h.set i (g, b')) := by
  refine opx_skip (by simp [ho]) fun X w a hR hops => ?_
  have e1 := hops x (by simp [ho, Op.operands])
  rw [hx] at e1
  have e2 := hops y (by simp [ho, Op.operands])
  rw [hy] at e2
  obtain ⟨hA, hone⟩ := cs_cells e2 (by rw [hcs]; exact h1)
  rw [hcs] at hA
  have hB := hR.blk g b (List.mem_of_getElem? hi)
  have hvl : (a.eval y).cells.toList.length = n := by rw [hA.1, hn]
  have hrunE : ∀ w', (storeVar t ⟨g, off, none⟩ (a.eval y)).run P w = .ok () w' → (execOp a.eval o).run P w = .ok .skip w' := fun w' hr => by
    simp [execOp, ho, inv_ptr e1, Instr.storeAt, Instr.sureAddr, hr, Result.andThen]
  cases hb with
  | var hb hl =>
    rename_i e cells
    subst hb
    obtain ⟨cur, hg, hcur⟩ := hB
    have hl' : off + (a.eval y).cells.toList.length ≤ cur.length := by rw [hA.1, hcur.1]; exact hl
    have hr := run_storeVar (P := P) hs rfl hvl hone hg hl'
    have hset := setRow_heap w g cur.toArray (splice cur off (a.eval y).cells.toList).toArray e (0, 0) hg
    have := hR.repl (w' := w.setRow g (splice cur off (a.eval y).cells.toList).toArray) (b' := .var e (splice cells off cs)) hi rfl rfl rfl (by simp) (fun k hk hne => setRow_other w g k _ hne) (.inl rfl)
      (fun hkeep => ⟨_, hset, (hcur.splice hA off).mono hkeep⟩)
    exact ⟨_, _, hrunE _ hr, rfl, this.1, this.2⟩
  | arr hb hr0 hoff hl =>
    rename_i e size rows cap i' j r
    subst hb
    obtain ⟨cur, hg, h2, h3, h4, h5, h6⟩ := hB
    have hsz : r.length = size := h5 r (List.mem_of_getElem? hr0)
    have hil : i' < rows.length := (List.getElem?_eq_some_iff.1 hr0).1
    have hin : off + cs.length ≤ rows.length * size := by
      have : (i' + 1) * size ≤ rows.length * size := Nat.mul_le_mul_right _ hil
      rw [Nat.succ_mul] at this
      omega
    have hcap : rows.length * size ≤ cap * size := Nat.mul_le_mul_right _ h4
    have hl' : off + (a.eval y).cells.toList.length ≤ cur.length := by rw [hA.1, h2]; omega
    have hr := run_storeVar (P := P) hs rfl hvl hone hg hl'
    have hset := setRow_heap w g cur.toArray (splice cur off (a.eval y).cells.toList).toArray e (0, 0) hg
    have := hR.repl (w' := w.setRow g (splice cur off (a.eval y).cells.toList).toArray) (b' := .arr e size (rows.set i' (splice r j cs)) cap) hi rfl rfl rfl (by simp) (fun k hk hne => setRow_other w g k _ hne) (.inl rfl)
      (fun hkeep => ⟨_, hset, by rw [splice_len hl']; exact h2, h3, by simpa using h4, fun q hq => by
        rcases List.mem_or_eq_of_mem_set hq with hm | rfl
        · exact h5 q hm
        · rw [splice_len hl, hsz], by
        rw [flatten_set h5 hr0 hl, ← hoff, List.length_set]
        have e3 : (splice cur off (a.eval y).cells.toList).take (rows.length * size) = splice (cur.take (rows.length * size)) off (a.eval y).cells.toList := by
          exact take_splice (by rw [hA.1]; exact hin) (by rw [h2]; exact hcap)
        rw [e3]
        exact (h6.splice hA off).mono hkeep⟩)
    exact ⟨_, _, hrunE _ hr, rfl, this.1, this.2⟩
theorem x_store1 {t : TypeId} {x y : Operand} {i g off : Nat} {e : TypeId} {cells cells' : List AV} {h' : H} {cv : AV} (hs : ∀ w, (sizeOf t).run P w = .ok 1 w) (ho : o.op = .store t x y) (hx : Ev tm x (.ptr g off)) (hy : Ev tm y cv)
    (h1 : cv.one = true) (hc : Put1 cells off cv cells') (hh : HPut h i g (.var e cells) (.var e cells') h') : OpX ro P h (evT tm) o (fun _ h2 => h2 = h') := by
  obtain ⟨hi, hset⟩ := hh.eq
  obtain ⟨hl, hsp⟩ := hc.eq
  have hcs : cv.cs = [cv] := by cases cv <;> first | rfl | cases h1
  subst hset; subst hsp
  exact opx_store (cv := cv) (cs := [cv]) ho hx.eq hy.eq hcs (fun c hc => by simp at hc; subst hc; exact h1) hs rfl hi (.var rfl (by simp; omega))
theorem x_storen {t : TypeId} {x y : Operand} {i g m : Nat} {e : TypeId} {cells cs : List AV} {h' : H} (hs : ∀ w, (sizeOf t).run P w = .ok m w) (ho : o.op = .store t x y) (hx : Ev tm x (.ptr g 0)) (hy : Ev tm y (.agg cs))
    (h1 : cs.all AV.one = true) (hm : cs.length = m) (hl : cells.length = m) (hh : HPut h i g (.var e cells) (.var e cs) h') : OpX ro P h (evT tm) o (fun _ h2 => h2 = h') := by
  obtain ⟨hi, hset⟩ := hh.eq
  have hsp : splice cells 0 cs = cs := by simp [splice, hm, ← hl]
  subst hset
  have hb := Blk.stored.var (b := .var e cells) (off := 0) (cs := cs) rfl (by rw [hm, hl]; omega)
  rw [hsp] at hb
  exact opx_store (cv := .agg cs) (cs := cs) ho hx.eq hy.eq rfl (fun c hc => List.all_eq_true.1 h1 c hc) hs hm hi hb
/-- A row of a block of rows is stored. -/
theorem x_store_row {t : TypeId} {x y : Operand} {i g off m j cap : Nat} {e : TypeId} {rows rows' : List (List AV)} {cs : List AV} {cv : AV} {h' : H} (hs : ∀ w, (sizeOf t).run P w = .ok m w) (ho : o.op = .store t x y) (hx : Ev tm x (.ptr g off)) (hy : Ev tm y cv) (hcs : cv.cs = cs)
    (h1 : ∀ c, c ∈ cs → c.one = true) (hm : cs.length = m) (hr : ∃ r, rows[j]? = some r ∧ r.length = m) (hoff : off = j * m) (hset : rows.set j cs = rows') (hh : HPut h i g (.arr e m rows cap) (.arr e m rows' cap) h') : OpX ro P h (evT tm) o (fun _ h2 => h2 = h') := by
  obtain ⟨hi, hs2⟩ := hh.eq
  obtain ⟨r, hr, hrl⟩ := hr
  subst hs2; subst hset
  have hb := Blk.stored.arr (b := .arr e m rows cap) (off := off) (cs := cs) (e := e) (size := m) (cap := cap) (i := j) (j := 0) rfl hr (by omega) (by omega)
  have e2 : splice r 0 cs = cs := by simp [splice, hm, ← hrl]
  rw [e2] at hb
  exact opx_store (cv := cv) (cs := cs) ho hx.eq hy.eq hcs h1 hs hm hi hb
theorem x_call {fo : Operand} {az : List Operand} {ts : Array TypeId} {f : FuncId} {caps args vs : List AV} {hc hf : H} {Post : AV → H → Prop} (ho : o.op = .call { callee := .value fo, args := az.toArray, argTypes := ts })
    (hfo : Ev tm fo (.fn (.func f) caps)) (hcf : ∀ args w, (callFunc f args).run P w = .ok (.enter f args) w) (has : Evs tm az vs) (hap : vs ++ caps = args) (hp : h.Perm (hc ++ hf)) (hcall : ACalls P f args hc Post) : OpX ro P h (evT tm) o (fun r h2 => ∃ h', Post r h' ∧ h2 = h' ++ hf) := by
  intro X w a K Q' hr hops hk
  have e1 := hops fo (by simp [ho, Op.operands, Call.operands])
  rw [hfo.eq] at e1
  obtain ⟨cvs, he, hcv⟩ := inv_fn e1
  refine ⟨fun _ _ => trivial, ?_⟩
  rw [semAt_any (by simp [ho]), callee_run ho he hcf]
  refine ⟨fun h => absurd h (by simp [AF, Fence.wide]), ?_⟩
  have hA : AVs (Xh X h) w args (az.map a.eval ++ cvs) := by
    rw [← hap, ← has.eq]
    exact (AVs_of_map (fun x hx => hops x (by simp [ho, Op.operands, Call.operands, hx]))).append hcv
  have := hcall _ w _ (hr.part hp) (hA.mono (part_keep hp))
  refine CallsIn.mono (F := AF ro) (n := 0) this fun e w' ⟨v, r, h', hev, hpost, hr', hv, st⟩ => ?_
  subst hev
  obtain ⟨hr2, hst⟩ := hr.join hp hr' st
  exact hk v w' r (h' ++ hf) ⟨h', hpost, rfl⟩ (hv.mono join_keep) hr2 hst
theorem g_xd {listed' : Array Bool} {Good : AV → H → Prop} (i : Nat) (hr : Region.ready .any ops listed = [i]) (ho : ops[i]? = some o) (hl : listed.setIfInBounds i true = listed') (hrun : Runs ops ⟨n, tm, h, ds⟩ o true) (hd : o.dst = some d) (hx : OpX ro P h (evT tm) o Good)
    (k : ∀ av h', Good av h' → KB kl h' ∧ GT ro P ops Q n ds (KB kl) f listed' ((d, av) :: tm) h') : GT ro P ops Q n ds (KB kl) (f + 1) listed tm h :=
  g_x i hr ho hl hrun hx (fun av h' hg => by rw [hd]; exact k av h' hg)
theorem g_x0 {listed' : Array Bool} {Good : AV → H → Prop} (i : Nat) (hr : Region.ready .any ops listed = [i]) (ho : ops[i]? = some o) (hl : listed.setIfInBounds i true = listed') (hrun : Runs ops ⟨n, tm, h, ds⟩ o true) (hd : o.dst = none) (hx : OpX ro P h (evT tm) o Good)
    (k : ∀ av h', Good av h' → KB kl h' ∧ GT ro P ops Q n ds (KB kl) f listed' tm h') : GT ro P ops Q n ds (KB kl) (f + 1) listed tm h :=
  g_x i hr ho hl hrun hx (fun av h' hg => by rw [hd]; exact k av h' hg)
theorem l_xd {rest : List Oper} {Good : AV → H → Prop} (hr : Runs ops ⟨n, tm, h, ds⟩ o true) (hd : o.dst = some d) (hn : Nat.blt d n = true) (hx : OpX ro P h (evT tm) o Good) (k : ∀ av h', Good av h' → awpL ro P ops Q rest ⟨n, (d, av) :: tm, h', ds⟩) : awpL ro P ops Q (o :: rest) ⟨n, tm, h, ds⟩ :=
  l_x hr (dst_ok hd hn) hx (fun av h' hg => by rw [hd]; exact k av h' hg)
theorem l_x0 {rest : List Oper} {Good : AV → H → Prop} (hr : Runs ops ⟨n, tm, h, ds⟩ o true) (hd : o.dst = none) (hx : OpX ro P h (evT tm) o Good) (k : ∀ av h', Good av h' → awpL ro P ops Q rest ⟨n, tm, h', ds⟩) : awpL ro P ops Q (o :: rest) ⟨n, tm, h, ds⟩ :=
  l_x hr (fun d e => by rw [hd] at e; cases e) hx (fun av h' hg => by rw [hd]; exact k av h' hg)
theorem m_load1 {x : Operand} {t : TypeId} (ht : ScT P t) {g off : Nat} {e : TypeId} {cells : List AV} {ρ : Operand → AV} (ho : o.op = .load t x) (hx : ρ x = .ptr g off) (hm : (g, .var e cells) ∈ h) (hc : At1 cells off av) : OpV ro P h ρ o av := by
  obtain ⟨i, hi⟩ := List.getElem?_of_mem hm
  exact p_load1 ht ho hx hi (.var rfl hc.eq)
theorem m_loadn {x : Operand} {t : TypeId} {m : Nat} (ht : AgT P t m) {g : Nat} {e : TypeId} {cells : List AV} {ρ : Operand → AV} (ho : o.op = .load t x) (hx : ρ x = .ptr g 0) (hm : (g, .var e cells) ∈ h) (hn : cells.length = m) : OpV ro P h ρ o (.agg cells) := by
  obtain ⟨i, hi⟩ := List.getElem?_of_mem hm
  exact p_loadn ht ho hx hi (by rw [List.drop_zero, ← hn, List.take_length]) hn

/-! ### '==' of structs -/
section
variable {dd : Nat} {xs ys : Array Value} {w : World}
theorem eqA {t : TypeId} {fs : Array Field} (hu : P.underlying t = some (.struct fs)) (hp : P.stoodInHeld t = false) : (Op.equalIn (dd + 1) t (.agg xs) (.agg ys)).run P w = (Op.eqFields dd xs ys fs.toList).run P w := by
  have hf : P.fieldsOf t = fs := by simp [Program.fieldsOf, hu]
  rw [run_equalIn_struct (P := P) w dd t xs ys (by rw [hf]; exact hu) hp, hf]
theorem eqf_cons {f : Field} {fs : List Field} {a b : Value} {p q : Prop} [Decidable p] [Decidable q] (hn : (f.name == "_") = false) (ha : (part f.type xs f.offset).run P w = .ok a w) (hb : (part f.type ys f.offset).run P w = .ok b w)
    (he : (Op.equalIn dd f.type a b).run P w = .ok (decide p) w) (hr : (Op.eqFields dd xs ys fs).run P w = .ok (decide q) w) : (Op.eqFields dd xs ys (f :: fs)).run P w = .ok (decide (p ∧ q)) w := by
  have hn' : f.name ≠ "_" := by simpa using hn
  rw [Op.eqFields]
  simp only [if_pos hn', Sem.run_bind, ha, hb, he, Result.andThen_ok]
  by_cases hp : p
  · simp [hp, hr]
  · simp [hp]
theorem eqf_last {f : Field} {a b : Value} {p : Prop} [Decidable p] (hn : (f.name == "_") = false) (ha : (part f.type xs f.offset).run P w = .ok a w) (hb : (part f.type ys f.offset).run P w = .ok b w)
    (he : (Op.equalIn dd f.type a b).run P w = .ok (decide p) w) : (Op.eqFields dd xs ys [f]).run P w = .ok (decide p) w := by
  have hn' : f.name ≠ "_" := by simpa using hn
  rw [Op.eqFields]
  simp only [if_pos hn', Sem.run_bind, ha, hb, he, Result.andThen_ok]
  by_cases hp : p <;> simp [hp, Op.eqFields]
theorem eq_int {t : TypeId} {k k' : IntKind} {a b : Int} (hu : P.underlying t = some (.int k)) : (Op.equalIn (dd + 1) t (.int k' a) (.int k' b)).run P w = .ok (decide (a = b)) w := by simp [Op.equalIn, run_underlying hu]; rfl
theorem eq_str {t : TypeId} {a b : ByteArray} (hu : P.underlying t = some .string) : (Op.equalIn (dd + 1) t (.string a) (.string b)).run P w = .ok (decide (a = b)) w := by
  simp [Op.equalIn, run_underlying hu]
  by_cases he : a = b
  · subst he; simp [beq_toListBytes]
  · simp only [he, decide_false]
    cases hb : a == b with
    | false => rfl
    | true =>
      exact absurd (by rw [beq_toListBytes] at hb; have h2 := eq_of_beq hb; rw [ByteArray.toList_eq, ByteArray.toList_eq] at h2; exact ByteArray.ext (Array.toList_inj.1 h2)) he
theorem eq_bool {t : TypeId} {a b : Bool} (hu : P.underlying t = some .bool) : (Op.equalIn (dd + 1) t (.bool a) (.bool b)).run P w = .ok (decide (a = b)) w := by
  simp [Op.equalIn, run_underlying hu]
  cases a <;> cases b <;> rfl
end
def AV.sc : AV → Bool
  | .d (.b _) => true
  | .d (.i _ _) => true
  | .d (.s _) => true
  | _ => false
def AV.val : AV → Value
  | .d (.b x) => .bool x
  | .d (.i k n) => .int k n
  | .d (.s x) => .string x
  | _ => undef
theorem sc_val {Y : Nat → Prop} {w : World} {c : AV} {v : Value} (h : AVR Y w c v) (hc : c.sc = true) : v = c.val := by
  cases c with
  | d x =>
    cases x with
    | b x => exact inv_b h
    | i k n => exact inv_i h
    | s x => exact inv_s h
    | sl xs => cases hc
    | fn f caps => cases hc
    | v x => cases hc
  | _ => cases hc
theorem sc_vals {Y : Nat → Prop} {w : World} : ∀ {l : List AV} {vs : List Value}, AVs Y w l vs → l.all AV.sc = true → vs = l.map AV.val
  | [], vs, h, _ => h.nil_inv
  | c :: l, vs, h, hc => by
    obtain ⟨v, r, rfl, h1, h2⟩ := h.cons_inv
    simp only [List.all_cons, Bool.and_eq_true] at hc
    rw [sc_val h1 hc.1, sc_vals h2 hc.2]; rfl
theorem opv_agg_eql {ρ : Operand → AV} {t t' : TypeId} {x y : Operand} {l m : List AV} {r : Bool} (hg : P.eqGuardType P.depth t = false) (ho : o.op = .binOp .eql t x y t') (hx : ρ x = .agg l) (hy : ρ y = .agg m) (hl : l.all AV.sc = true) (hm : m.all AV.sc = true)
    (he : ∀ w, (Op.equalIn 10000 t (.agg (l.map AV.val).toArray) (.agg (m.map AV.val).toArray)).run P w = .ok r w) : OpV ro P h ρ o (.d (.b r)) :=
  opv_pure (by simp [ho]) fun X w a _ hops => ⟨.bool r, by
    have h1 := hops x (by simp [ho, Op.operands]); rw [hx] at h1
    have h2 := hops y (by simp [ho, Op.operands]); rw [hy] at h2
    obtain ⟨vs, e1, hA⟩ := inv_agg h1
    obtain ⟨us, e2, hB⟩ := inv_agg h2
    have hgr : (eqGuard .eql t x y (.agg vs.toArray) (.agg us.toArray)).run P w = .ok () w := by simp [eqGuard, hg]
    have := he w
    rw [← sc_vals hA hl, ← sc_vals hB hm] at this
    simp [execOp, ho, e1, e2, hgr, Result.andThen, binOp, Op.equal, Op.maxDepth, this], mk_b r⟩
theorem opv_agg_neq {ρ : Operand → AV} {t t' : TypeId} {x y : Operand} {l m : List AV} {r r' : Bool} (hg : P.eqGuardType P.depth t = false) (ho : o.op = .binOp .neq t x y t') (hx : ρ x = .agg l) (hy : ρ y = .agg m) (hl : l.all AV.sc = true) (hm : m.all AV.sc = true)
    (he : ∀ w, (Op.equalIn 10000 t (.agg (l.map AV.val).toArray) (.agg (m.map AV.val).toArray)).run P w = .ok r w) (hr : (!r) = r') : OpV ro P h ρ o (.d (.b r')) :=
  opv_pure (by simp [ho]) fun X w a _ hops => ⟨.bool r', by
    have h1 := hops x (by simp [ho, Op.operands]); rw [hx] at h1
    have h2 := hops y (by simp [ho, Op.operands]); rw [hy] at h2
    obtain ⟨vs, e1, hA⟩ := inv_agg h1
    obtain ⟨us, e2, hB⟩ := inv_agg h2
    have hgr : (eqGuard .neq t x y (.agg vs.toArray) (.agg us.toArray)).run P w = .ok () w := by simp [eqGuard, hg]
    have := he w
    rw [← sc_vals hA hl, ← sc_vals hB hm] at this
    simp [execOp, ho, e1, e2, hgr, Result.andThen, binOp, Op.equal, Op.maxDepth, this, hr], mk_b r'⟩

/-- A slice is no longer than a whole number tells. -/
theorem wlen {ro : Option Nat} {Q : Exit → St → Prop} {n : Nat} {tm : List (Nat × AV)} {h : H} {ds : List Nat} {c : Code} {t : Nat} {xs : List (List D)} (hl : Look tm t (.d (.sl xs))) (k : xs.length ≤ 9223372036854775807 → awp ro P c Q ⟨n, tm, h, ds⟩) : awp ro P c Q ⟨n, tm, h, ds⟩ := by
  intro X w a hs
  have h1 := hs.tm t
  rw [show look (⟨n, tm, h, ds⟩ : St).tm t = .d (.sl xs) from hl.eq] at h1
  obtain ⟨A, c, _, _, hm⟩ := inv_sl h1
  exact k hm X w a hs
end
end Go.Proofs.YtjnkbmodcddbkaaDoor
