/- A logic of abstract states. Part 1: operations that leave the heap alone; regions. -/
import Derived.Test.YtjnkbmodcddbkaaDoorAw0
set_option linter.unusedVariables false
set_option linter.unusedSimpArgs false
namespace Go.Proofs.YtjnkbmodcddbkaaDoor
open Go

/-! ### what a value of a known form is -/
section inv
variable {Y : Nat → Prop} {w : World} {v : Value}
theorem inv_b {x : Bool} (h : AVR Y w (.d (.b x)) v) : v = .bool x := by cases h with | d h => cases h; rfl
theorem inv_i {k : IntKind} {n : Int} (h : AVR Y w (.d (.i k n)) v) : v = .int k n := by cases h with | d h => cases h; rfl
theorem inv_s {x : ByteArray} (h : AVR Y w (.d (.s x)) v) : v = .string x := by cases h with | d h => cases h; rfl
theorem inv_ptr {g off : Nat} (h : AVR Y w (.ptr g off) v) : v = .pointer (some ⟨g, off, none⟩) := by cases h; rfl
theorem inv_own {g off len cap : Nat} (h : AVR Y w (.own g off len cap) v) : v = .slice (some ⟨g, off, none⟩) len cap := by cases h; rfl
theorem inv_nil (h : AVR Y w .nil v) : v = .slice none 0 0 := by cases h; rfl
theorem inv_sl {xs : List (List D)} (h : AVR Y w (.d (.sl xs)) v) : ∃ A c, v = .slice A xs.length c ∧ xs.length ≤ c ∧ xs.length ≤ 9223372036854775807 := by cases h with | d h => cases h with | sl _ A c sz ad vals hc hm => exact ⟨A, c, rfl, hc, hm⟩
theorem inv_fn {f : Fn} {cap : List AV} (h : AVR Y w (.fn f cap) v) : ∃ vs, v = .func f #[] vs.toArray ∧ AVs Y w cap vs := by cases h with | fn _ _ vs hl h => exact ⟨vs, rfl, hl, h⟩
theorem inv_agg {cells : List AV} (h : AVR Y w (.agg cells) v) : ∃ vs, v = .agg vs.toArray ∧ AVs Y w cells vs := by cases h with | agg _ vs hl h => exact ⟨vs, rfl, hl, h⟩
theorem inv_tup {cells : List AV} (h : AVR Y w (.tup cells) v) : ∃ vs, v = .tuple vs.toArray ∧ AVs Y w cells vs := by cases h with | tup _ vs hl h => exact ⟨vs, rfl, hl, h⟩
theorem AVs.agg {cells : List AV} {vs : List Value} (h : AVs Y w cells vs) : AVR Y w (.agg cells) (.agg vs.toArray) := .agg cells vs h.1 h.2
theorem AVs.tup {cells : List AV} {vs : List Value} (h : AVs Y w cells vs) : AVR Y w (.tup cells) (.tuple vs.toArray) := .tup cells vs h.1 h.2
theorem mk_b (x : Bool) : AVR Y w (.d (.b x)) (.bool x) := .d (.b x)
theorem mk_i (k : IntKind) (n : Int) : AVR Y w (.d (.i k n)) (.int k n) := .d (.i k n)
theorem mk_s (x : ByteArray) : AVR Y w (.d (.s x)) (.string x) := .d (.s x)
/-- A slice of frozen rows: one of its elements is at its place. -/
theorem inv_sl_at {xs : List (List D)} {sz : Nat} (h : AVR Y w (.d (.sl xs)) v) (j : Nat) (r : List D) (hj : xs[j]? = some r) (hs : r.length = sz) :
    ∃ ad c, v = .slice (some ad) xs.length c ∧ AVR Y w (.fptr r) (.pointer (some (ad.add (j * sz)))) := by
  cases h with
  | d h =>
    cases h with
    | sl _ A c sz' ad vals hc hm hsz hA hv hr =>
      have h0 : 0 < xs.length := by
        have := (List.getElem?_eq_some_iff.1 hj).1
        omega
      obtain ⟨rfl, h2, h3⟩ := hA h0
      have e : sz' = sz := by rw [← hsz r (List.mem_of_getElem? hj), hs]
      subst e
      refine ⟨ad, c, rfl, .fptr r _ (vals j) ⟨by rw [add_block]; exact h2, by rw [add_block]; exact h3⟩ (fun i x hi => ?_) (fun i x hi => hr j i r x hj hi)⟩
      have := hv j i r x hj hi
      rwa [show (ad.add (j * sz')).add i = ad.add (j * sz' + i) from by unfold Addr.add; by_cases h1 : j * sz' = 0 <;> by_cases h2 : i = 0 <;> simp [h1, h2, Nat.add_assoc]]
end inv

theorem semAt_any {ro : Option Nat} {ρ : Operand → Value} {o : Oper} (h : ∀ c, o.op ≠ .defer c) : o.semAt ro ρ = execOp ρ o := by
  cases ro with
  | none => exact Oper.semAt_none ..
  | some l => exact Oper.semAt_some l ρ o h

/-- An operation that yields this value, whatever else: the heap as it was. -/
def OpV (ro : Option Nat) (P : Program) (h : H) (ρ : Operand → AV) (o : Oper) (av : AV) : Prop :=
  ∀ (X : Nat → Prop) (w : World) (a : Act) (K : Act → World → Prop) (Q' : Exit → Act → World → Prop), Rel X w h → (∀ x, x ∈ o.op.operands → AVR (Xh X h) w (ρ x) (a.eval x)) →
    (∀ v w', AVR (Xh X h) w' av v → Rel X w' h → Step h h w w' → K (a.put o.dst v) w') → o.wpIn (AF ro) 0 P a w K Q'

section opv
variable {ro : Option Nat} {P : Program} {h : H} {ρ : Operand → AV} {o : Oper} {av : AV}

theorem opv_run (hnd : ∀ c, o.op ≠ .defer c)
    (hh : ∀ (X : Nat → Prop) (w : World) (a : Act), Rel X w h → (∀ x, x ∈ o.op.operands → AVR (Xh X h) w (ρ x) (a.eval x)) → ∃ v w', (execOp a.eval o).run P w = .ok (.value v) w' ∧ AVR (Xh X h) w' av v ∧ Rel X w' h ∧ Step h h w w') : OpV ro P h ρ o av := by
  intro X w a K Q' hr hops hk
  obtain ⟨v, w', hrun, hv, hr', hst⟩ := hh X w a hr hops
  refine ⟨fun _ _ => trivial, ?_⟩
  rw [semAt_any hnd, hrun]
  exact hk v w' hv hr' hst
theorem opv_pure (hnd : ∀ c, o.op ≠ .defer c)
    (hh : ∀ (X : Nat → Prop) (w : World) (a : Act), Rel X w h → (∀ x, x ∈ o.op.operands → AVR (Xh X h) w (ρ x) (a.eval x)) → ∃ v, (execOp a.eval o).run P w = .ok (.value v) w ∧ AVR (Xh X h) w av v) : OpV ro P h ρ o av :=
  opv_run hnd fun X w a hr hops => let ⟨v, h1, h2⟩ := hh X w a hr hops; ⟨v, w, h1, h2, hr, Step.refl _ _⟩

theorem opv_move {x : Operand} (ho : o.op = .move x) (hx : ρ x = av) : OpV ro P h ρ o av :=
  opv_pure (by simp [ho]) fun X w a hr hops => ⟨a.eval x, by simp [execOp, ho], hx ▸ hops x (by simp [ho, Op.operands])⟩
theorem opv_assign {x : Operand} (ho : o.op = .assign x) (hx : ρ x = av) : OpV ro P h ρ o av :=
  opv_pure (by simp [ho]) fun X w a hr hops => ⟨a.eval x, by simp [execOp, ho], hx ▸ hops x (by simp [ho, Op.operands])⟩
theorem opv_pick_t {c x y : Operand} {t : Bool} (ho : o.op = .pick c x y) (hc : ρ c = .d (.b t)) (ht : t = true) (hx : ρ x = av) : OpV ro P h ρ o av :=
  opv_pure (by simp [ho]) fun X w a hr hops => ⟨a.eval x, by
    have h1 := hops c (by simp [ho, Op.operands]); rw [hc] at h1
    simp [execOp, ho, inv_b h1, asBool, ht], hx ▸ hops x (by simp [ho, Op.operands])⟩
theorem opv_pick_f {c x y : Operand} {t : Bool} (ho : o.op = .pick c x y) (hc : ρ c = .d (.b t)) (ht : t = false) (hy : ρ y = av) : OpV ro P h ρ o av :=
  opv_pure (by simp [ho]) fun X w a hr hops => ⟨a.eval y, by
    have h1 := hops c (by simp [ho, Op.operands]); rw [hc] at h1
    simp [execOp, ho, inv_b h1, asBool, ht], hy ▸ hops y (by simp [ho, Op.operands])⟩
/-- Both a bool: no case. -/
theorem opv_pick {c x y : Operand} {t p q r : Bool} (ho : o.op = .pick c x y) (hc : ρ c = .d (.b t)) (hx : ρ x = .d (.b p)) (hy : ρ y = .d (.b q)) (hr : (bif t then p else q) = r) (hav : av = .d (.b r)) : OpV ro P h ρ o av :=
  opv_pure (by simp [ho]) fun X w a _ hops => ⟨.bool r, by
    have h1 := hops c (by simp [ho, Op.operands]); rw [hc] at h1
    have h2 := hops x (by simp [ho, Op.operands]); rw [hx] at h2
    have h3 := hops y (by simp [ho, Op.operands]); rw [hy] at h3
    subst hr
    cases t <;> simp [execOp, ho, inv_b h1, inv_b h2, inv_b h3, asBool], hav ▸ mk_b r⟩

theorem opv_bin_i {op : BinOp} {t t' : TypeId} {x y : Operand} {k : IntKind} {m n z : Int} (ho : o.op = .binOp op t x y t') (hx : ρ x = .d (.i k m)) (hy : ρ y = .d (.i k n))
    (hop : ∀ w, (binOp op t (.int k m) (.int k n)).run P w = .ok (.int k z) w) (hav : av = .d (.i k z)) : OpV ro P h ρ o av :=
  opv_pure (by simp [ho]) fun X w a _ hops => ⟨.int k z, by
    have h1 := hops x (by simp [ho, Op.operands]); rw [hx] at h1
    have h2 := hops y (by simp [ho, Op.operands]); rw [hy] at h2
    have hg : (eqGuard op t x y (.int k m) (.int k n)).run P w = .ok () w := by unfold eqGuard; split <;> simp
    simp [execOp, ho, inv_i h1, inv_i h2, hop, hg, Result.andThen], hav ▸ mk_i k z⟩
theorem opv_bin_ib {op : BinOp} {t t' : TypeId} {x y : Operand} {k : IntKind} {m n : Int} {z : Bool} (ho : o.op = .binOp op t x y t') (hx : ρ x = .d (.i k m)) (hy : ρ y = .d (.i k n))
    (hop : ∀ w, (binOp op t (.int k m) (.int k n)).run P w = .ok (.bool z) w) (hav : av = .d (.b z)) : OpV ro P h ρ o av :=
  opv_pure (by simp [ho]) fun X w a _ hops => ⟨.bool z, by
    have h1 := hops x (by simp [ho, Op.operands]); rw [hx] at h1
    have h2 := hops y (by simp [ho, Op.operands]); rw [hy] at h2
    have hg : (eqGuard op t x y (.int k m) (.int k n)).run P w = .ok () w := by unfold eqGuard; split <;> simp
    simp [execOp, ho, inv_i h1, inv_i h2, hop, hg, Result.andThen], hav ▸ mk_b z⟩
theorem opv_add {t t' : TypeId} {x y : Operand} {k : IntKind} {m n z : Int} (ho : o.op = .binOp .add t x y t') (hx : ρ x = .d (.i k m)) (hy : ρ y = .d (.i k n)) (hz : k.wrap (m + n) = z) (hav : av = .d (.i k z)) : OpV ro P h ρ o av :=
  opv_bin_i ho hx hy (fun w => by simp [binOp, Op.intArith, hz]) hav
theorem opv_sub {t t' : TypeId} {x y : Operand} {k : IntKind} {m n z : Int} (ho : o.op = .binOp .sub t x y t') (hx : ρ x = .d (.i k m)) (hy : ρ y = .d (.i k n)) (hz : k.wrap (m - n) = z) (hav : av = .d (.i k z)) : OpV ro P h ρ o av :=
  opv_bin_i ho hx hy (fun w => by simp [binOp, Op.intArith, hz]) hav
theorem opv_mul {t t' : TypeId} {x y : Operand} {k : IntKind} {m n z : Int} (ho : o.op = .binOp .mul t x y t') (hx : ρ x = .d (.i k m)) (hy : ρ y = .d (.i k n)) (hz : k.wrap (m * n) = z) (hav : av = .d (.i k z)) : OpV ro P h ρ o av :=
  opv_bin_i ho hx hy (fun w => by simp [binOp, Op.intArith, hz]) hav
theorem opv_quo {t t' : TypeId} {x y : Operand} {k : IntKind} {m n z : Int} (ho : o.op = .binOp .quo t x y t') (hx : ρ x = .d (.i k m)) (hy : ρ y = .d (.i k n)) (hn : n ≠ 0) (hz : k.wrap (m.tdiv n) = z) (hav : av = .d (.i k z)) : OpV ro P h ρ o av :=
  opv_bin_i ho hx hy (fun w => by simp [binOp, Op.intDiv, hz, hn]) hav
theorem opv_rem {t t' : TypeId} {x y : Operand} {k : IntKind} {m n z : Int} (ho : o.op = .binOp .rem t x y t') (hx : ρ x = .d (.i k m)) (hy : ρ y = .d (.i k n)) (hn : n ≠ 0) (hz : m.tmod n = z) (hav : av = .d (.i k z)) : OpV ro P h ρ o av :=
  opv_bin_i ho hx hy (fun w => by simp [binOp, Op.intDiv, hz, hn]) hav
theorem opv_shr {t t' : TypeId} {x y : Operand} {k k' : IntKind} {m n z : Int} (ho : o.op = .binOp .shr t x y t') (hx : ρ x = .d (.i k m)) (hy : ρ y = .d (.i k' n)) (hn : 0 ≤ n) (hz : m.fdiv (2 ^ (min n.toNat k.bits)) = z) (hav : av = .d (.i k z)) : OpV ro P h ρ o av :=
  opv_pure (by simp [ho]) fun X w a _ hops => ⟨.int k z, by
    have h1 := hops x (by simp [ho, Op.operands]); rw [hx] at h1
    have h2 := hops y (by simp [ho, Op.operands]); rw [hy] at h2
    have hg : (eqGuard .shr t x y (.int k m) (.int k' n)).run P w = .ok () w := by unfold eqGuard; simp
    simp [execOp, ho, inv_i h1, inv_i h2, hg, Result.andThen, binOp, Op.shift, Int.not_lt.2 hn, hz], hav ▸ mk_i k z⟩
theorem opv_shl {t t' : TypeId} {x y : Operand} {k k' : IntKind} {m n z : Int} (ho : o.op = .binOp .shl t x y t') (hx : ρ x = .d (.i k m)) (hy : ρ y = .d (.i k' n)) (hn : 0 ≤ n) (hz : k.wrap (m * 2 ^ (min n.toNat k.bits)) = z) (hav : av = .d (.i k z)) : OpV ro P h ρ o av :=
  opv_pure (by simp [ho]) fun X w a _ hops => ⟨.int k z, by
    have h1 := hops x (by simp [ho, Op.operands]); rw [hx] at h1
    have h2 := hops y (by simp [ho, Op.operands]); rw [hy] at h2
    have hg : (eqGuard .shl t x y (.int k m) (.int k' n)).run P w = .ok () w := by unfold eqGuard; simp
    simp [execOp, ho, inv_i h1, inv_i h2, hg, Result.andThen, binOp, Op.shift, Int.not_lt.2 hn, hz], hav ▸ mk_i k z⟩
theorem opv_lss {t t' : TypeId} {x y : Operand} {k : IntKind} {m n : Int} (ho : o.op = .binOp .lss t x y t') (hx : ρ x = .d (.i k m)) (hy : ρ y = .d (.i k n)) (hav : av = .d (.b (decide (m < n)))) : OpV ro P h ρ o av :=
  opv_bin_ib ho hx hy (fun w => by simp [binOp, Op.intCmp]) hav
theorem opv_leq {t t' : TypeId} {x y : Operand} {k : IntKind} {m n : Int} (ho : o.op = .binOp .leq t x y t') (hx : ρ x = .d (.i k m)) (hy : ρ y = .d (.i k n)) (hav : av = .d (.b (decide (m ≤ n)))) : OpV ro P h ρ o av :=
  opv_bin_ib ho hx hy (fun w => by simp [binOp, Op.intCmp]) hav
theorem opv_gtr {t t' : TypeId} {x y : Operand} {k : IntKind} {m n : Int} (ho : o.op = .binOp .gtr t x y t') (hx : ρ x = .d (.i k m)) (hy : ρ y = .d (.i k n)) (hav : av = .d (.b (decide (n < m)))) : OpV ro P h ρ o av :=
  opv_bin_ib ho hx hy (fun w => by simp [binOp, Op.intCmp]) hav
theorem opv_geq {t t' : TypeId} {x y : Operand} {k : IntKind} {m n : Int} (ho : o.op = .binOp .geq t x y t') (hx : ρ x = .d (.i k m)) (hy : ρ y = .d (.i k n)) (hav : av = .d (.b (decide (n ≤ m)))) : OpV ro P h ρ o av :=
  opv_bin_ib ho hx hy (fun w => by simp [binOp, Op.intCmp]) hav
theorem opv_eql_i {t t' : TypeId} {x y : Operand} {k : IntKind} {m n : Int} (ho : o.op = .binOp .eql t x y t') (hx : ρ x = .d (.i k m)) (hy : ρ y = .d (.i k n)) (hav : av = .d (.b (decide (m = n)))) : OpV ro P h ρ o av :=
  opv_bin_ib ho hx hy (fun w => by simp [binOp, Op.intCmp]; rw [Bool.eq_iff_iff]; simp) hav
theorem opv_neq_i {t t' : TypeId} {x y : Operand} {k : IntKind} {m n : Int} (ho : o.op = .binOp .neq t x y t') (hx : ρ x = .d (.i k m)) (hy : ρ y = .d (.i k n)) (hav : av = .d (.b (decide (m ≠ n)))) : OpV ro P h ρ o av :=
  opv_bin_ib ho hx hy (fun w => by simp [binOp, Op.intCmp]; rw [Bool.eq_iff_iff]; simp) hav

/-- Strings compared. -/
theorem opv_bin_s {op : BinOp} {t t' : TypeId} {x y : Operand} {p q : ByteArray} {z : Bool} (ho : o.op = .binOp op t x y t') (hx : ρ x = .d (.s p)) (hy : ρ y = .d (.s q))
    (hop : ∀ w, (Op.stringOp op p q).run P w = .ok (.bool z) w) (hsh : op ≠ .shl ∧ op ≠ .shr) (hav : av = .d (.b z)) : OpV ro P h ρ o av :=
  opv_pure (by simp [ho]) fun X w a _ hops => ⟨.bool z, by
    have h1 := hops x (by simp [ho, Op.operands]); rw [hx] at h1
    have h2 := hops y (by simp [ho, Op.operands]); rw [hy] at h2
    have hg : (eqGuard op t x y (.string p) (.string q)).run P w = .ok () w := by unfold eqGuard; split <;> simp
    have hb : binOp op t (.string p) (.string q) = Op.stringOp op p q := by cases op <;> rfl
    simp [execOp, ho, inv_s h1, inv_s h2, hb, hop, hg, Result.andThen], hav ▸ mk_b z⟩
def bl (x : ByteArray) : List UInt8 := x.data.toList
theorem toList_bl (x : ByteArray) : x.toList = bl x := Go.ByteArray.toList_eq x
theorem opv_eql_s {t t' : TypeId} {x y : Operand} {p q : ByteArray} (ho : o.op = .binOp .eql t x y t') (hx : ρ x = .d (.s p)) (hy : ρ y = .d (.s q)) (hav : av = .d (.b (decide (bl p = bl q)))) : OpV ro P h ρ o av :=
  opv_bin_s ho hx hy (fun w => by simp only [Op.stringOp, toList_bl, Sem.run_pure]; congr 2; rw [Bool.eq_iff_iff]; simp) (by decide) hav
theorem opv_neq_s {t t' : TypeId} {x y : Operand} {p q : ByteArray} (ho : o.op = .binOp .neq t x y t') (hx : ρ x = .d (.s p)) (hy : ρ y = .d (.s q)) (hav : av = .d (.b (decide (bl p ≠ bl q)))) : OpV ro P h ρ o av :=
  opv_bin_s ho hx hy (fun w => by simp only [Op.stringOp, toList_bl, Sem.run_pure]; congr 2; rw [Bool.eq_iff_iff]; simp) (by decide) hav
theorem opv_lss_s {t t' : TypeId} {x y : Operand} {p q : ByteArray} (ho : o.op = .binOp .lss t x y t') (hx : ρ x = .d (.s p)) (hy : ρ y = .d (.s q)) (hav : av = .d (.b (Op.bytesLess (bl p) (bl q)))) : OpV ro P h ρ o av :=
  opv_bin_s ho hx hy (fun w => by simp only [Op.stringOp, toList_bl, Sem.run_pure]) (by decide) hav
theorem opv_gtr_s {t t' : TypeId} {x y : Operand} {p q : ByteArray} (ho : o.op = .binOp .gtr t x y t') (hx : ρ x = .d (.s p)) (hy : ρ y = .d (.s q)) (hav : av = .d (.b (!(Op.bytesLess (bl p) (bl q) || decide (bl p = bl q))))) : OpV ro P h ρ o av :=
  opv_bin_s ho hx hy (fun w => by simp only [Op.stringOp, toList_bl, Sem.run_pure]; congr 2; rw [Bool.eq_iff_iff]; simp) (by decide) hav
theorem opv_geq_s {t t' : TypeId} {x y : Operand} {p q : ByteArray} (ho : o.op = .binOp .geq t x y t') (hx : ρ x = .d (.s p)) (hy : ρ y = .d (.s q)) (hav : av = .d (.b (!Op.bytesLess (bl p) (bl q)))) : OpV ro P h ρ o av :=
  opv_bin_s ho hx hy (fun w => by simp only [Op.stringOp, toList_bl, Sem.run_pure]) (by decide) hav
theorem opv_leq_s {t t' : TypeId} {x y : Operand} {p q : ByteArray} (ho : o.op = .binOp .leq t x y t') (hx : ρ x = .d (.s p)) (hy : ρ y = .d (.s q)) (hav : av = .d (.b (Op.bytesLess (bl p) (bl q) || decide (bl p = bl q)))) : OpV ro P h ρ o av :=
  opv_bin_s ho hx hy (fun w => by simp only [Op.stringOp, toList_bl, Sem.run_pure]; congr 2; rw [Bool.eq_iff_iff]; simp) (by decide) hav
theorem opv_add_s {t t' : TypeId} {x y : Operand} {p q : ByteArray} (ho : o.op = .binOp .add t x y t') (hx : ρ x = .d (.s p)) (hy : ρ y = .d (.s q)) (hm : p.size + q.size ≤ 9223372036854775807) (hav : av = .d (.s (p ++ q))) : OpV ro P h ρ o av :=
  opv_pure (by simp [ho]) fun X w a _ hops => ⟨.string (p ++ q), by
    have h1 := hops x (by simp [ho, Op.operands]); rw [hx] at h1
    have h2 := hops y (by simp [ho, Op.operands]); rw [hy] at h2
    have hg : (eqGuard .add t x y (.string p) (.string q)).run P w = .ok () w := by unfold eqGuard; simp
    have hb : binOp .add t (.string p) (.string q) = Op.stringOp .add p q := rfl
    have hn : ¬ ((p.size + q.size : Nat) : Int) > IntKind.i64.max := by
      show ¬ ((p.size + q.size : Nat) : Int) > 9223372036854775807
      omega
    simp only [execOp, ho, inv_s h1, inv_s h2, hb, hg, Sem.run_bind, Result.andThen_ok, Op.stringOp, if_neg hn, Sem.run_pure], hav ▸ mk_s _⟩

theorem opv_not {t : TypeId} {x : Operand} {p : Bool} (ho : o.op = .unOp .not t x) (hx : ρ x = .d (.b p)) (hav : av = .d (.b (!p))) : OpV ro P h ρ o av :=
  opv_pure (by simp [ho]) fun X w a _ hops => ⟨.bool (!p), by
    have h1 := hops x (by simp [ho, Op.operands]); rw [hx] at h1
    simp [execOp, ho, inv_b h1, Op.unary], hav ▸ mk_b _⟩
theorem opv_convert {t t' : TypeId} {x : Operand} {k k' : IntKind} {n z : Int} {d : TypeDesc} (ht : P.underlying t = some d) (ht' : P.underlying t' = some (.int k')) (ho : o.op = .convert t t' x) (hx : ρ x = .d (.i k n)) (hz : k'.wrap n = z) (hav : av = .d (.i k' z)) : OpV ro P h ρ o av :=
  opv_pure (by simp [ho]) fun X w a _ hops => ⟨.int k' z, by
    have h1 := hops x (by simp [ho, Op.operands]); rw [hx] at h1
    have e : (convert t t' (.int k n)).run P w = .ok (.int k' z) w := by
      unfold convert
      simp only [Sem.run_bind, run_underlying ht, run_underlying ht', Result.andThen_ok]
      cases d <;> simp [Conv.intToInt, hz]
    simp [execOp, ho, inv_i h1, e, Result.andThen], hav ▸ mk_i k' z⟩
theorem opv_nilCheck_p {x : Operand} {g off : Nat} (ho : o.op = .nilCheck x) (hx : ρ x = .ptr g off) (hav : av = .ptr g off) : OpV ro P h ρ o av :=
  opv_pure (by simp [ho]) fun X w a _ hops => ⟨.pointer (some ⟨g, off, none⟩), by
    have h1 := hops x (by simp [ho, Op.operands]); rw [hx] at h1
    simp [execOp, ho, inv_ptr h1], hav ▸ .ptr g off⟩
theorem opv_nilCheck_f {x : Operand} {cells : List D} (ho : o.op = .nilCheck x) (hx : ρ x = .fptr cells) (hav : av = .fptr cells) : OpV ro P h ρ o av :=
  opv_pure (by simp [ho]) fun X w a _ hops => by
    have h1 := hops x (by simp [ho, Op.operands]); rw [hx] at h1
    generalize he : a.eval x = v at h1
    cases h1 with
    | fptr _ ad vals hA hv hr => exact ⟨.pointer (some ad), by simp [execOp, ho, he], hav ▸ AVR.fptr cells ad vals hA hv hr⟩
theorem opv_extract {x : Operand} {i : Nat} {vs : List AV} (ho : o.op = .extract x i) (hx : ρ x = .tup vs) (hi : vs[i]? = some av) : OpV ro P h ρ o av :=
  opv_pure (by simp [ho]) fun X w a _ hops => by
    have h1 := hops x (by simp [ho, Op.operands]); rw [hx] at h1
    obtain ⟨us, he, hu⟩ := inv_tup h1
    have hlt : i < us.length := by rw [hu.1]; exact (List.getElem?_eq_some_iff.1 hi).1
    exact ⟨us[i], by simp [execOp, ho, he, Instr.extract, hlt], hu.2 i av _ hi (List.getElem?_eq_getElem hlt)⟩

/-! #### lengths -/
theorem opv_len {x : Operand} {t : TypeId} {n : Nat} (ho : o.op = .call { callee := .builtin .len, args := #[x], argTypes := #[t] })
    (hlen : ∀ (Y : Nat → Prop) (w : World) (v : Value), AVR Y w (ρ x) v → (Builtin.len_ #[t] o.type #[v]).run P w = .ok (.int .i64 n) w) (hav : av = .d (.i .i64 n)) : OpV ro P h ρ o av :=
  opv_pure (by simp [ho]) fun X w a _ hops => ⟨.int .i64 n, by
    have h1 := hops x (by simp [ho, Op.operands, Call.operands])
    have e := hlen _ _ _ h1
    simp [execOp, ho, resolve, invoke, builtin, e, Result.andThen], hav ▸ mk_i .i64 n⟩
theorem opv_len_s {x : Operand} {t : TypeId} {p : ByteArray} (ht : P.underlying t = some .string) (ho : o.op = .call { callee := .builtin .len, args := #[x], argTypes := #[t] }) (hx : ρ x = .d (.s p)) (hav : av = .d (.i .i64 (p.size : Nat))) : OpV ro P h ρ o av :=
  opv_len ho (fun Y w v hv => by rw [hx] at hv; rw [inv_s hv]; simp [Builtin.len_, run_underlying ht, goInt]) hav
theorem opv_len_sl {x : Operand} {t e : TypeId} {xs : List (List D)} (ht : P.underlying t = some (.slice e)) (ho : o.op = .call { callee := .builtin .len, args := #[x], argTypes := #[t] }) (hx : ρ x = .d (.sl xs)) (hav : av = .d (.i .i64 (xs.length : Nat))) : OpV ro P h ρ o av :=
  opv_len ho (fun Y w v hv => by rw [hx] at hv; obtain ⟨A, c, rfl, _⟩ := inv_sl hv; simp [Builtin.len_, run_underlying ht, goInt]) hav
theorem opv_len_own {x : Operand} {t e : TypeId} {g off len cap : Nat} (ht : P.underlying t = some (.slice e)) (ho : o.op = .call { callee := .builtin .len, args := #[x], argTypes := #[t] }) (hx : ρ x = .own g off len cap) (hav : av = .d (.i .i64 (len : Nat))) : OpV ro P h ρ o av :=
  opv_len ho (fun Y w v hv => by rw [hx] at hv; rw [inv_own hv]; simp [Builtin.len_, run_underlying ht, goInt]) hav
theorem opv_len_nil {x : Operand} {t e : TypeId} (ht : P.underlying t = some (.slice e)) (ho : o.op = .call { callee := .builtin .len, args := #[x], argTypes := #[t] }) (hx : ρ x = .nil) (hav : av = .d (.i .i64 (0 : Nat))) : OpV ro P h ρ o av :=
  opv_len ho (fun Y w v hv => by rw [hx] at hv; rw [inv_nil hv]; simp [Builtin.len_, run_underlying ht, goInt]) hav

/-! #### strings -/
def bt (s : ByteArray) (i : Int) : Int := if hh : i.toNat < s.size then ((s[i.toNat]'hh).toNat : Int) else 0
theorem opv_index_s {x y : Operand} {t : TypeId} {p : ByteArray} {k : IntKind} {i : Int} (ht : P.underlying t = some .string) (ho : o.op = .index t x y) (hx : ρ x = .d (.s p)) (hy : ρ y = .d (.i k i)) (h0 : 0 ≤ i) (h1 : i < p.size) (hav : av = .d (.i .u8 (bt p i))) : OpV ro P h ρ o av :=
  opv_pure (by simp [ho]) fun X w a _ hops => ⟨.int .u8 (bt p i), by
    have e1 := hops x (by simp [ho, Op.operands]); rw [hx] at e1
    have e2 := hops y (by simp [ho, Op.operands]); rw [hy] at e2
    have hlt : i.toNat < p.size := by omega
    have e : (Instr.index t (.string p) (.int k i)).run P w = .ok (.int .u8 (bt p i)) w := by
      simp [Instr.index, asIntOf, run_underlying ht, h0, bt, hlt]
    simp [execOp, ho, inv_s e1, inv_i e2, e, Result.andThen], hav ▸ mk_i _ _⟩
/-- A bound of a slice expression: l, or the default. -/
def optI (ρ : Operand → AV) (d l : Int) : Option Operand → Prop
  | some y => ∃ k, ρ y = .d (.i k l)
  | none => l = d
theorem opv_slice_s {x : Operand} {t : TypeId} {p : ByteArray} {lo hi : Option Operand} {l u : Int} (ht : P.underlying t = some .string) (ho : o.op = .slice t x lo hi none) (hx : ρ x = .d (.s p))
    (hl : optI ρ 0 l lo) (hu : optI ρ p.size u hi) (h0 : 0 ≤ l) (h1 : l ≤ u) (h2 : u ≤ p.size) (hav : av = .d (.s (p.extract l.toNat u.toNat))) : OpV ro P h ρ o av :=
  opv_pure (by simp [ho]) fun X w a _ hops => ⟨.string (p.extract l.toNat u.toNat), by
    have e1 := hops x (by simp [ho, Op.operands]); rw [hx] at e1
    have e : (Instr.sliceAt t (.string p) (lo.map a.eval) (hi.map a.eval) none).run P w = .ok (.string (p.extract l.toNat u.toNat)) w := by
      have h3 : l ≤ (p.size : Int) := Int.le_trans h1 h2
      have h4 : 0 ≤ u := Int.le_trans h0 h1
      cases lo with
      | none =>
        cases hi with
        | none =>
          obtain rfl : l = 0 := hl
          obtain rfl : u = p.size := hu
          simp [Instr.sliceAt, Instr.slice, run_underlying ht, Instr.sliceBounds, Instr.sliceBound, asIntOf]
        | some y =>
          obtain rfl : l = 0 := hl
          obtain ⟨k, hk⟩ := hu
          have e2 := hops y (by simp [ho, Op.operands]); rw [hk] at e2
          simp [Instr.sliceAt, Instr.slice, run_underlying ht, Instr.sliceBounds, Instr.sliceBound, asIntOf, inv_i e2, h1, h2]
      | some z =>
        obtain ⟨k', hk'⟩ := hl
        have e3 := hops z (by simp [ho, Op.operands]); rw [hk'] at e3
        cases hi with
        | none =>
          obtain rfl : u = p.size := hu
          simp [Instr.sliceAt, Instr.slice, run_underlying ht, Instr.sliceBounds, Instr.sliceBound, asIntOf, inv_i e3, h0, h1]
        | some y =>
          obtain ⟨k, hk⟩ := hu
          have e2 := hops y (by simp [ho, Op.operands]); rw [hk] at e2
          have h5 : max u 0 = u := by omega
          simp [Instr.sliceAt, Instr.slice, run_underlying ht, Instr.sliceBounds, Instr.sliceBound, asIntOf, inv_i e2, inv_i e3, h0, h1, h2, h4, h5]
    simp [execOp, ho, inv_s e1, e, Result.andThen], hav ▸ mk_s _⟩
end opv
end Go.Proofs.YtjnkbmodcddbkaaDoor
