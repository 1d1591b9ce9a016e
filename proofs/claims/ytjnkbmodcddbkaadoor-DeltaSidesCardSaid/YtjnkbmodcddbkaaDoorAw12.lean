/- A logic of abstract states. Part 12: arrays; variables whose nil slices are seen as empty; freezing within a region. -/
import Derived.Test.YtjnkbmodcddbkaaDoorAw11
set_option linter.unusedVariables false
set_option linter.unusedSimpArgs false
namespace Go.Proofs.YtjnkbmodcddbkaaDoor
open Go Go.RowKit
section
variable {ro : Option Nat} {P : Program} {h : H} {ρ : Operand → AV} {o : Oper} {av : AV}
theorem p_index_arr {x y : Operand} {t e n m g off off' : Nat} {k : IntKind} {i : Int} (ht : P.underlying t = some (.array m e)) (hs : ∀ w, (sizeOf e).run P w = .ok n w) (ho : o.op = .indexAddr t x y) (hx : ρ x = .ptr g off) (hy : ρ y = .d (.i k i)) (h0 : 0 ≤ i) (hi : i < m) (ho' : off + i.toNat * n = off') : OpV ro P h ρ o (.ptr g off') :=
  opv_indexAddr_arr ht hs ho hx hy h0 hi (by rw [ho'])
theorem p_index_arrf {x y : Operand} {t e n m : Nat} {k : IntKind} {i : Int} {cs cs' : List D} (ht : P.underlying t = some (.array m e)) (hs : ∀ w, (sizeOf e).run P w = .ok n w) (ho : o.op = .indexAddr t x y) (hx : ρ x = .fptr cs) (hy : ρ y = .d (.i k i)) (h0 : 0 ≤ i) (hi : i < m) (hc : cs.drop (i.toNat * n) = cs') : OpV ro P h ρ o (.fptr cs') :=
  opv_pure (by simp [ho]) fun X w a _ hops => by
    have h1 := hops x (by simp [ho, Op.operands]); rw [hx] at h1
    have h2 := hops y (by simp [ho, Op.operands]); rw [hy] at h2
    generalize he : a.eval x = v at h1
    cases h1 with
    | fptr _ ad vals hA hv hr =>
      refine ⟨.pointer (some (ad.add (i.toNat * n))), by simp [execOp, ho, he, inv_i h2, Instr.indexAt, run_underlying ht, asIntOf, Instr.sureAddr, h0, hi, hs, Result.andThen], ?_⟩
      subst hc
      refine .fptr _ _ (fun j => vals (i.toNat * n + j)) ⟨by rw [add_block]; exact hA.1, by rw [add_block]; exact hA.2⟩ (fun j c hj => ?_) (fun j c hj => ?_)
      · rw [List.getElem?_drop] at hj
        rw [add_add]; exact hv _ c hj
      · rw [List.getElem?_drop] at hj
        exact hr _ c hj
/-- An element of an array of elements of one cell. -/
theorem p_index_agg {x y : Operand} {t e m : Nat} {k : IntKind} {i : Int} {cs : List AV} (ht : P.underlying t = some (.array m e)) (hsc : ScT P e) (hs : ∀ w, (sizeOf e).run P w = .ok 1 w) (ho : o.op = .index t x y) (hx : ρ x = .agg cs) (hy : ρ y = .d (.i k i)) (h0 : 0 ≤ i) (hi : i < m) (hc : cs[i.toNat]? = some av) : OpV ro P h ρ o av :=
  opv_pure (by simp [ho]) fun X w a _ hops => by
    have h1 := hops x (by simp [ho, Op.operands]); rw [hx] at h1
    have h2 := hops y (by simp [ho, Op.operands]); rw [hy] at h2
    obtain ⟨vs, he, hA⟩ := inv_agg h1
    obtain ⟨d, h5, h6⟩ := hsc
    have hlt : i.toNat < vs.length := by rw [hA.1]; exact (List.getElem?_eq_some_iff.1 hc).1
    refine ⟨vs[i.toNat], ?_, hA.2 _ _ _ hc (List.getElem?_eq_getElem hlt)⟩
    simp [execOp, ho, he, inv_i h2, Instr.index, asIntOf, run_underlying ht, h0, hi, hs, part, run_isAgg h5, h6, hlt, Result.andThen]
end
section
variable {ro : Option Nat} {P : Program} {ops : Array Oper} {Q : Exit → St → Prop} {n : Nat} {tm : List (Nat × AV)} {h : H} {ds : List Nat}
/-- A variable's nil slices are seen as empty ones. -/
theorem weak_var {i g e : Nat} {cs cs' : List AV} {h' : H} (hh : HPut h i g (.var e cs) (.var e cs') h') (k : FrzL [] cs cs') : Weak ⟨n, tm, h, ds⟩ ⟨n, tm, h', ds⟩ := by
  obtain ⟨hi, hset⟩ := hh.eq
  subst hset
  intro X w a hs
  have hr := Rel.repl (w' := w) (g' := g) (b' := .var e cs') hs.rel hi rfl rfl rfl (Nat.le_refl _) (fun k hk hne => rfl) (.inl rfl) (fun hkeep => by
    obtain ⟨cv, hg, hA⟩ := hs.rel.blk g _ (List.mem_of_getElem? hi)
    exact ⟨cv, hg, (frz_vals hs.rel (hz := []) (h' := h) (List.Perm.refl _) k hA).mono hkeep⟩)
  exact ⟨⟨hr.1, hs.size, fun t => (hs.tm t).mono hr.2.keeps, hs.ds⟩, hr.2⟩
theorem pvar {c : Code} {i g e : Nat} {cs cs' : List AV} {h' : H} (hh : HPut h i g (.var e cs) (.var e cs') h') (k : FrzL [] cs cs') (hc : awp ro P c Q ⟨n, tm, h', ds⟩) : awp ro P c Q ⟨n, tm, h, ds⟩ := awp_weak (weak_var hh k) hc
/-- Freezing between operations. -/
theorem lfrz {l : List (Nat × AV)} {os : List Oper} {keep hz : H} (hs : List.Sublist (keep ++ hz) h) (k : FKeeps hz tm l) (hh : awpL ro P ops Q os ⟨n, l, keep, ds⟩) : awpL ro P ops Q os ⟨n, tm, h, ds⟩ := awpL_weak (weak_f hs k) hh
end
/-- A body's end, one mark being left. -/
theorem ret_und1 {P : Program} {n d : Nat} {tm : List (Nat × AV)} {h0 : H} {rs : Array ResultVar} {r r' : AV} {h' : H} {Post : AV → H → Prop} (hr : ResA P ⟨n, tm, h0, []⟩ rs r) (hc : Cast h0 r h' r') (hp : Post r' h') : retQ P rs Post .ret ⟨n, tm, (d, dfr) :: h0, [d]⟩ :=
  ⟨_, r, h', r', .step (i := 0) rfl rfl (.done rfl), hr, hc, hp⟩
theorem end_und1 {P : Program} {n d : Nat} {tm : List (Nat × AV)} {h0 : H} {rs : Array ResultVar} {r r' : AV} {h' : H} {Post : AV → H → Prop} (hr : ResA P ⟨n, tm, h0, []⟩ rs r) (hc : Cast h0 r h' r') (hp : Post r' h') : retQ P rs Post .normal ⟨n, tm, (d, dfr) :: h0, [d]⟩ :=
  ⟨_, r, h', r', .step (i := 0) rfl rfl (.done rfl), hr, hc, hp⟩
end Go.Proofs.YtjnkbmodcddbkaaDoor
