/- A logic of abstract states. Part 9: parts of slices. -/
import Derived.Test.YtjnkbmodcddbkaaDoorAw8
set_option linter.unusedVariables false
set_option linter.unusedSimpArgs false
namespace Go.Proofs.YtjnkbmodcddbkaaDoor
open Go Go.RowKit
section
variable {ro : Option Nat} {P : Program} {ops : Array Oper} {n : Nat} {tm : List (Nat × AV)} {h : H} {ds : List Nat} {o : Oper}

theorem run_sliceAt_any {t e sz : Nat} {A : Option Addr} {len c : Nat} {ρ : Operand → AV} {a : Act} {Y : Nat → Prop} {w : World} {lo hi : Option Operand} {l u : Int} (hu : P.underlying t = some (.slice e)) (hsz : ∀ w, (sizeOf e).run P w = .ok sz w)
    (hops : ∀ y, (lo = some y ∨ hi = some y) → AVR Y w (ρ y) (a.eval y)) (hl : optI ρ 0 l lo) (hh : optI ρ len u hi) (h0 : 0 ≤ l) (h1 : l ≤ u) (h2 : u ≤ len) (hc : len ≤ c) :
    (Instr.sliceAt t (.slice A len c) (lo.map a.eval) (hi.map a.eval) none).run P w = .ok (.slice (if c = l.toNat then A else A.map (·.add (l.toNat * sz))) (u.toNat - l.toNat) (c - l.toNat)) w := by
  have h3 : l ≤ (len : Int) := Int.le_trans h1 h2
  have h4 : 0 ≤ u := Int.le_trans h0 h1
  have h6 : u ≤ (c : Int) := by omega
  have h7 : l ≤ (c : Int) := by omega
  have h5 : max u 0 = u := by omega
  cases lo with
  | none =>
    obtain rfl : l = 0 := hl
    cases hi with
    | none =>
      obtain rfl : u = len := hh
      simp [Instr.sliceAt, Instr.slice, run_underlying hu, Instr.sliceBounds, Instr.sliceBound, asIntOf, hsz]
    | some y =>
      obtain ⟨k, hk⟩ := hh
      have e2 := hops y (.inr rfl); rw [hk] at e2
      simp [Instr.sliceAt, Instr.slice, run_underlying hu, Instr.sliceBounds, Instr.sliceBound, asIntOf, inv_i e2, h1, h2, h6, hsz]
  | some z =>
    obtain ⟨k', hk'⟩ := hl
    have e3 := hops z (.inl rfl); rw [hk'] at e3
    cases hi with
    | none =>
      obtain rfl : u = len := hh
      simp [Instr.sliceAt, Instr.slice, run_underlying hu, Instr.sliceBounds, Instr.sliceBound, asIntOf, inv_i e3, h0, h1, hsz]
    | some y =>
      obtain ⟨k, hk⟩ := hh
      have e2 := hops y (.inr rfl); rw [hk] at e2
      simp [Instr.sliceAt, Instr.slice, run_underlying hu, Instr.sliceBounds, Instr.sliceBound, asIntOf, inv_i e2, inv_i e3, h0, h1, h2, h4, h5, h6, hsz]

/-- A part of a frozen slice. -/
theorem p_slice_f {ρ : Operand → AV} {x : Operand} {t e sz : Nat} {lo hi : Option Operand} {l u : Int} {xs ys : List (List D)} (ht : SlT P t e sz) (ho : o.op = .slice t x lo hi none) (hx : ρ x = .d (.sl xs))
    (hl : optI ρ 0 l lo) (hu : optI ρ xs.length u hi) (h0 : 0 ≤ l) (h1 : l ≤ u) (h2 : u ≤ xs.length) (hs : ∀ r, r ∈ xs → r.length = sz) (hy : (xs.drop l.toNat).take (u.toNat - l.toNat) = ys) : OpV ro P h ρ o (.d (.sl ys)) := by
  subst hy
  refine opv_pure (by simp [ho]) fun X w a hr hops => ?_
  have e1 := hops x (by simp [ho, Op.operands])
  rw [hx] at e1
  generalize hv : a.eval x = v at e1
  cases e1 with
  | d hd =>
    cases hd with
    | sl _ A c sz' ad vals hc hm hsz hA hcell hrd =>
      have hrun := run_sliceAt_any (P := P) (A := A) (a := a) (w := w) (Y := Xh X h) (ρ := ρ) ht.1 ht.2 (lo := lo) (hi := hi) (fun y hy => hops y (by
        rw [ho]
        rcases hy with rfl | rfl <;> simp [Op.operands])) hl hu h0 h1 h2 hc
      have hlen : ((xs.drop l.toNat).take (u.toNat - l.toNat)).length = u.toNat - l.toNat := by rw [List.length_take, List.length_drop]; omega
      have hget : ∀ j, j < u.toNat - l.toNat → ((xs.drop l.toNat).take (u.toNat - l.toNat))[j]? = xs[l.toNat + j]? := fun j hj => by rw [List.getElem?_take, if_pos hj, List.getElem?_drop]
      refine ⟨.slice (if c = l.toNat then A else A.map (·.add (l.toNat * sz))) (u.toNat - l.toNat) (c - l.toNat), by simp [execOp, ho, hv, hrun, Result.andThen], ?_⟩
      have hmain : DR (Xh X h) w (.sl ((xs.drop l.toNat).take (u.toNat - l.toNat))) (.slice (if c = l.toNat then A else A.map (·.add (l.toNat * sz))) ((xs.drop l.toNat).take (u.toNat - l.toNat)).length (c - l.toNat)) := by
        refine .sl _ _ _ sz (ad.add (l.toNat * sz)) (fun j i => vals (l.toNat + j) i) (by rw [hlen]; omega) (by rw [hlen]; omega) (fun r hr => hs r (List.mem_of_mem_drop (List.mem_of_mem_take hr))) (fun hp => ?_) (fun j i r x hj hi => ?_) (fun j i r x hj hi => ?_)
        · rw [hlen] at hp
          obtain ⟨rfl, h3, h4⟩ := hA (by omega)
          rw [if_neg (by omega)]
          exact ⟨rfl, by rw [add_block]; exact h3, by rw [add_block]; exact h4⟩
        · have hjl : j < u.toNat - l.toNat := by have := (List.getElem?_eq_some_iff.1 hj).1; rwa [hlen] at this
          rw [hget j hjl] at hj
          have es : sz' = sz := by rw [← hsz r (List.mem_of_getElem? hj), hs r (List.mem_of_getElem? hj)]
          have := hcell _ i r x hj hi
          rw [es, Nat.add_mul] at this
          rw [add_add]
          rwa [Nat.add_assoc] at this
        · have hjl : j < u.toNat - l.toNat := by have := (List.getElem?_eq_some_iff.1 hj).1; rwa [hlen] at this
          rw [hget j hjl] at hj
          exact hrd _ i r x hj hi
      rw [hlen] at hmain
      exact .d hmain

/-- A call that makes or turns blocks: these stand last. -/
theorem x_calla {fo : Operand} {az : List Operand} {ts : Array TypeId} {f : FuncId} {caps args vs : List AV} {hc hf : H} {Post : AV → H → Prop} (ho : o.op = .call { callee := .value fo, args := az.toArray, argTypes := ts })
    (hfo : Ev tm fo (.fn (.func f) caps)) (hcf : ∀ args w, (callFunc f args).run P w = .ok (.enter f args) w) (has : Evs tm az vs) (hap : vs ++ caps = args) (hp : h = hf ++ hc) (hcall : ACalls P f args hc Post) : OpX ro P h (evT tm) o (fun r h2 => ∃ h', Post r h' ∧ h2 = hf ++ h') := by
  intro X w a K Q' hr hops hk
  have hx := x_call (ro := ro) (tm := tm) (h := h) (hc := hc) (hf := hf) ho hfo hcf has hap (by rw [hp]; exact List.perm_append_comm) hcall
  refine hx X w a K Q' hr hops (fun v w' av h2 hg hA hr' st => ?_)
  obtain ⟨h', hpost, rfl⟩ := hg
  have p : (h' ++ hf).Perm (hf ++ h') := List.perm_append_comm
  exact hk v w' av (hf ++ h') ⟨h', hpost, rfl⟩ (by rw [← Xh_perm p]; exact hA) (hr'.perm p) (st.perm p)
theorem acc_at {acc : Acc} {rows : List (List AV)} (hr : acc.rows = rows) (h0 : 0 < rows.length) : ∃ g cap, acc = .at g cap rows := by
  cases acc with
  | none => simp only [Acc.rows] at hr; subst hr; simp at h0
  | «at» g cap r => simp only [Acc.rows] at hr; subst hr; exact ⟨g, cap, rfl⟩
end
end Go.Proofs.YtjnkbmodcddbkaaDoor
