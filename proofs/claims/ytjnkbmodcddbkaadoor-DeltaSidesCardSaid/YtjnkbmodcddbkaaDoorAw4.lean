/- A logic of abstract states. Part 4: contracts of functions, calls, what a function hands back. -/
import Derived.Test.YtjnkbmodcddbkaaDoorAw3
import Derived.RangeFuncRecord
set_option linter.unusedVariables false
set_option linter.unusedSimpArgs false
namespace Go.Proofs.YtjnkbmodcddbkaaDoor
open Go Go.RowKit

/-- A function's contract. -/
def ACalls (P : Program) (f : FuncId) (args : List AV) (h : H) (Post : AV → H → Prop) : Prop :=
  ∀ (X : Nat → Prop) (w : World) (vals : List Value), Rel X w h → AVs (Xh X h) w args vals →
    CallsIn (AF none) 0 P f vals.toArray w (fun e w' => ∃ v r h', e = .returned v ∧ Post r h' ∧ Rel X w' h' ∧ AVR (Xh X h') w' r v ∧ Step h h' w w')
/-- One that only computes. -/
def FSpec (P : Program) (f : FuncId) (args : List AV) (r : AV) : Prop := ACalls P f args [] (fun r' h' => r' = r ∧ h' = [])

theorem ACalls.mono {P : Program} {f : FuncId} {args : List AV} {h : H} {Post Post' : AV → H → Prop} (hc : ACalls P f args h Post) (hp : ∀ r h', Post r h' → Post' r h') : ACalls P f args h Post' :=
  fun X w vals hr hv => (hc X w vals hr hv).mono fun e w' ⟨v, r, h', he, q, rest⟩ => ⟨v, r, h', he, hp r h' q, rest⟩

section frame
variable {X : Nat → Prop} {w w' : World} {h hc hf h' : H}

theorem keys_append (a b : H) : keys (a ++ b) = keys a ++ keys b := by simp [keys]
theorem keys_perm {a b : H} (p : a.Perm b) {g : Nat} : g ∈ keys a ↔ g ∈ keys b := (p.map Prod.fst).mem_iff
theorem part_keep (p : h.Perm (hc ++ hf)) : Keep (Xh X h) w (Xh (fun g => X g ∨ g ∈ keys hf) hc) w := by
  have hmem : ∀ g, g ∈ keys h ↔ g ∈ keys hc ∨ g ∈ keys hf := fun g => by rw [keys_perm p, keys_append, List.mem_append]
  refine ⟨Nat.le_refl _, fun i hi hn => ⟨fun hx => hn ?_, rfl⟩⟩
  rcases hx with (hx | hx) | hx
  · exact .inl hx
  · exact .inr ((hmem i).2 (.inr hx))
  · exact .inr ((hmem i).2 (.inl hx))
/-- The part of a heap that a call is about. -/
theorem Rel.part (r : Rel X w h) (p : h.Perm (hc ++ hf)) : Rel (fun g => X g ∨ g ∈ keys hf) w hc := by
  have hnd : (keys (hc ++ hf)).Nodup := (p.map Prod.fst).nodup_iff.1 r.nodup
  rw [keys_append] at hnd
  have hnd' := List.nodup_append.1 hnd
  have hmem : ∀ g, g ∈ keys h ↔ g ∈ keys hc ∨ g ∈ keys hf := fun g => by rw [keys_perm p, keys_append, List.mem_append]
  refine ⟨hnd'.1, fun g hg hx => ?_, fun g hg => r.lt g ((hmem g).2 (.inl hg)), fun g hx => ?_, fun g b hb => ?_, r.glob.mono (part_keep p)⟩
  · rcases hx with hx | hx
    · exact r.notX g ((hmem g).2 (.inl hg)) hx
    · exact hnd'.2.2 g hg g hx rfl
  · rcases hx with hx | hx
    · exact r.xlt g hx
    · exact r.lt g ((hmem g).2 (.inr hx))
  · refine (r.blk g b (p.symm.mem_iff.1 (List.mem_append_left _ hb))).mono ⟨Nat.le_refl _, fun i hi hn => ⟨fun hx => hn ?_, rfl⟩⟩ rfl
    rcases hx with (hx | hx) | hx
    · exact .inl hx
    · exact .inr ((hmem i).2 (.inr hx))
    · exact .inr ((hmem i).2 (.inl hx))
theorem join_keep : Keep (Xh (fun g => X g ∨ g ∈ keys hf) h') w (Xh X (h' ++ hf)) w := by
  refine ⟨Nat.le_refl _, fun i hi hn => ⟨fun hx => hn ?_, rfl⟩⟩
  rcases hx with hx | hx
  · exact .inl (.inl hx)
  · rw [keys_append, List.mem_append] at hx
    rcases hx with hx | hx
    · exact .inr hx
    · exact .inl (.inr hx)
/-- The part put back. -/
theorem Rel.join (r : Rel X w h) (p : h.Perm (hc ++ hf)) (r' : Rel (fun g => X g ∨ g ∈ keys hf) w' h') (st : Step hc h' w w') : Rel X w' (h' ++ hf) ∧ Step h (h' ++ hf) w w' := by
  have hnd : (keys (hc ++ hf)).Nodup := (p.map Prod.fst).nodup_iff.1 r.nodup
  rw [keys_append] at hnd
  have hnd' := List.nodup_append.1 hnd
  have hmem : ∀ g, g ∈ keys h ↔ g ∈ keys hc ∨ g ∈ keys hf := fun g => by rw [keys_perm p, keys_append, List.mem_append]
  have hst : Step h (h' ++ hf) w w' := by
    refine ⟨st.os, st.tape, st.output, st.size, fun i hi hk => st.keep i hi (fun hm => hk ((hmem i).2 (.inl hm))), fun g hg => ?_⟩
    rw [keys_append, List.mem_append] at hg
    rcases hg with hg | hg
    · exact (st.new g hg).imp (fun hm => (hmem g).2 (.inl hm)) id
    · exact .inl ((hmem g).2 (.inr hg))
  have hkeep := hst.keeps (X := X)
  refine ⟨⟨?_, fun g hg => ?_, fun g hg => ?_, fun g hx => Nat.lt_of_lt_of_le (r.xlt g hx) st.size, fun g b hb => ?_, r.glob.mono hkeep⟩, hst⟩
  · rw [keys_append]
    exact List.nodup_append.2 ⟨r'.nodup, hnd'.2.1, fun a ha b hb e => r'.notX a ha (.inr (e ▸ hb))⟩
  · rw [keys_append, List.mem_append] at hg
    rcases hg with hg | hg
    · exact fun hx => r'.notX g hg (.inl hx)
    · exact r.notX g ((hmem g).2 (.inr hg))
  · rw [keys_append, List.mem_append] at hg
    rcases hg with hg | hg
    · exact r'.lt g hg
    · exact Nat.lt_of_lt_of_le (r.lt g ((hmem g).2 (.inr hg))) st.size
  · rcases List.mem_append.1 hb with hb | hb
    · exact (r'.blk g b hb).mono join_keep rfl
    · have hgk : g ∈ keys hf := List.mem_map.2 ⟨_, hb, rfl⟩
      have hgn : g ∉ keys hc := fun hm => hnd'.2.2 g hm g hgk rfl
      exact (r.blk g b (p.symm.mem_iff.1 (List.mem_append_right _ hb))).mono hkeep (st.keep g (r.lt g ((hmem g).2 (.inr hgk))) hgn)
end frame

section calls
variable {ro : Option Nat} {P : Program} {s : St} {o : Oper} {K : St → Prop}

theorem AVs_of_map {X : Nat → Prop} {w : World} {h : H} {ρ : Operand → AV} {a : Act} {l : List Operand} (hops : ∀ x, x ∈ l → AVR (Xh X h) w (ρ x) (a.eval x)) : AVs (Xh X h) w (l.map ρ) (l.map a.eval) := by
  induction l with
  | nil => exact .nil
  | cons x l ih => exact .cons (hops x (by simp)) (ih fun y hy => hops y (by simp [hy]))

theorem callee_run {fo : Operand} {az : List Operand} {ts : Array TypeId} {f : FuncId} {caps : List Value} {a : Act} {w : World} (ho : o.op = .call { callee := .value fo, args := az.toArray, argTypes := ts }) (hf : a.eval fo = .func (.func f) #[] caps.toArray)
    (hc : ∀ args w, (callFunc f args).run P w = .ok (.enter f args) w) : (execOp a.eval o).run P w = .ok (.enter f (az.map a.eval ++ caps).toArray) w := by
  simp [execOp, ho, resolve, hf, Deferred.ofValue, invoke, hc, Result.andThen]

theorem opa_call {fo : Operand} {az : List Operand} {ts : Array TypeId} {f : FuncId} {caps args : List AV} {hc hf : H} {Post : AV → H → Prop} (ho : o.op = .call { callee := .value fo, args := az.toArray, argTypes := ts }) (hd : ∀ d, o.dst = some d → d < s.n)
    (hfo : s.ev fo = .fn (.func f) caps) (hcf : ∀ args w, (callFunc f args).run P w = .ok (.enter f args) w) (has : az.map s.ev ++ caps = args) (hp : s.h.Perm (hc ++ hf)) (hcall : ACalls P f args hc Post)
    (hk : ∀ r h', Post r h' → K (({ s with h := h' ++ hf } : St).put o.dst r)) : OpA ro P s o K := by
  intro X w a Q' hs
  have e1 := hs.ev fo
  rw [hfo] at e1
  obtain ⟨cvs, he, hcv⟩ := inv_fn e1
  refine ⟨fun _ _ => trivial, ?_⟩
  rw [semAt_any (by simp [ho]), callee_run ho he hcf]
  refine ⟨fun h => absurd h (by simp [AF, Fence.wide]), ?_⟩
  have hA : AVs (Xh X s.h) w args (az.map a.eval ++ cvs) := by
    rw [← has]
    exact (AVs_of_map (fun x _ => hs.ev x)).append hcv
  have := hcall _ w _ (hs.rel.part hp) (hA.mono (part_keep hp))
  refine CallsIn.mono (F := AF ro) (n := 0) this fun e w' ⟨v, r, h', hev, hpost, hr', hv, st⟩ => ?_
  subst hev
  obtain ⟨hr2, hst⟩ := hs.rel.join hp hr' st
  exact ⟨_, hk r h' hpost, hs.mk_put hr2 hst hd (hv.mono join_keep), by rw [put_h]; exact hst⟩
/-- A call that only computes. -/
theorem opv_call {h : H} {ρ : Operand → AV} {fo : Operand} {az : List Operand} {ts : Array TypeId} {f : FuncId} {caps args : List AV} {av : AV} (ho : o.op = .call { callee := .value fo, args := az.toArray, argTypes := ts }) (hfo : ρ fo = .fn (.func f) caps)
    (hcf : ∀ args w, (callFunc f args).run P w = .ok (.enter f args) w) (has : az.map ρ ++ caps = args) (hcall : FSpec P f args av) : OpV ro P h ρ o av := by
  intro X w a K Q' hr hops hk
  have e1 := hops fo (by simp [ho, Op.operands, Call.operands])
  rw [hfo] at e1
  obtain ⟨cvs, he, hcv⟩ := inv_fn e1
  refine ⟨fun _ _ => trivial, ?_⟩
  rw [semAt_any (by simp [ho]), callee_run ho he hcf]
  refine ⟨fun h => absurd h (by simp [AF, Fence.wide]), ?_⟩
  have hA : AVs (Xh X h) w args (az.map a.eval ++ cvs) := by
    rw [← has]
    exact (AVs_of_map (fun x hx => hops x (by simp [ho, Op.operands, Call.operands, hx]))).append hcv
  have hp : h.Perm ([] ++ h) := List.Perm.refl _
  have := hcall _ w _ (hr.part hp) (hA.mono (part_keep hp))
  refine CallsIn.mono (F := AF ro) (n := 0) this fun e w' ⟨v, r, h', hev, ⟨hr1, hh1⟩, hr', hv, st⟩ => ?_
  subst hev
  subst hr1
  subst hh1
  obtain ⟨hr2, hst⟩ := hr.join hp hr' st
  exact hk v w' (hv.mono join_keep) hr2 hst
end calls

/-! ### a function's body -/
def tmOf : Nat → List AV → List (Nat × AV)
  | _, [] => []
  | i, v :: r => (i, v) :: tmOf (i + 1) r
theorem look_tmOf : ∀ (l : List AV) (i t : Nat), look (tmOf i l) t = if i ≤ t then (l[t - i]?).getD .junk else .junk
  | [], i, t => by simp [tmOf, look]
  | v :: r, i, t => by
    rw [tmOf, look_cons, look_tmOf r]
    by_cases h1 : i = t
    · subst h1; simp
    · rw [if_neg h1]
      by_cases h2 : i ≤ t
      · rw [if_pos (by omega), if_pos h2]
        rw [show t - i = (t - (i + 1)) + 1 by omega]
        simp
      · rw [if_neg (by omega), if_neg h2]

/-- What a result is. -/
inductive RV (P : Program) (s : St) : ResultVar → AV → Prop where
  | tmp {t : Tmp} {av : AV} (h : look s.tm t = av) : RV P s (.tmp t) av
  | cell1 {p : Tmp} {t : TypeId} {d : TypeDesc} {i g off : Nat} {b : Blk} {av : AV} (ht : P.underlying t = some d) (ha : aggTy d = false) (hp : look s.tm p = .ptr g off) (hi : s.h[i]? = some (g, b)) (hc : b.at off av) : RV P s (.cell p t) av
  | celln {p : Tmp} {t : TypeId} {d : TypeDesc} {n i g off : Nat} {b : Blk} {cs : List AV} (ht : P.underlying t = some d) (ha : aggTy d = true) (hs : ∀ w, (sizeOf t).run P w = .ok n w) (hp : look s.tm p = .ptr g off) (hi : s.h[i]? = some (g, b))
      (hc : ∀ j c, cs[j]? = some c → b.at (off + j) c) (hn : cs.length = n) : RV P s (.cell p t) (.agg cs)
def rvRun (tmps : Array Value) : ResultVar → Sem Value
  | .tmp t => pure (tmps.getD t undef)
  | .cell a t => do loadVar t (← asAddr (tmps.getD a undef))
theorem run_loadn {X : Nat → Prop} {w : World} {h : H} {P : Program} {t : TypeId} {d : TypeDesc} {n i g off : Nat} {b : Blk} {cs : List AV} (ht : P.underlying t = some d) (ha : aggTy d = true) (hs : ∀ w, (sizeOf t).run P w = .ok n w) (hr : Rel X w h) (hi : h[i]? = some (g, b))
    (hc : ∀ j c, cs[j]? = some c → b.at (off + j) c) (hn : cs.length = n) : ∃ v, (loadVar t ⟨g, off, none⟩).run P w = .ok v w ∧ AVR (Xh X h) w (.agg cs) v := by
  have hv := opv_loadn (ro := none) (P := P) (h := h) (ρ := fun _ => .ptr g off) (o := { dst := none, op := .load t (.tmp 0), type := 0, pos := "", after := #[], guard := none }) (x := .tmp 0) ht ha hs rfl rfl hi hc hn rfl
  have := hv X w { tmps := #[.pointer (some ⟨g, off, none⟩)], defers := [] } (fun _ w' => w' = w ∧ ∃ v, (loadVar t ⟨g, off, none⟩).run P w = .ok v w ∧ AVR (Xh X h) w (.agg cs) v) (fun _ _ _ => False) hr
  have hex : ∀ j, j < n → ∃ v, w.cell? ⟨g, off + j, none⟩ = some v ∧ ∀ c, cs[j]? = some c → AVR (Xh X h) w c v := fun j hj => by
    have hjl : j < cs.length := by omega
    obtain ⟨v, hv, hA⟩ := hr.cell hi (hc j _ (List.getElem?_eq_getElem hjl))
    exact ⟨v, hv, fun c hcc => by rw [List.getElem?_eq_getElem hjl] at hcc; injection hcc with hcc; subst hcc; exact hA⟩
  let f : Nat → Value := fun j => if hj : j < n then Classical.choose (hex j hj) else undef
  have hl := run_loadCells_list (P := P) w (⟨g, off, none⟩ : Addr) ((List.range n).map f) (fun j v hv => by
    have hj : j < n := by
      have := (List.getElem?_eq_some_iff.1 hv).1
      simpa using this
    rw [List.getElem?_map, List.getElem?_range hj] at hv
    simp at hv
    rw [← hv, add_pt]; simp only [f, dif_pos hj]; exact (Classical.choose_spec (hex j hj)).1)
  simp only [List.length_map, List.length_range] at hl
  refine ⟨.agg ((List.range n).map f).toArray, by simp [loadVar, run_isAgg ht, ha, hs, hl], ?_⟩
  refine .agg cs _ (by simp [hn]) (fun j c v hcj hv => ?_)
  have hj : j < n := by have := (List.getElem?_eq_some_iff.1 hcj).1; omega
  rw [List.getElem?_map, List.getElem?_range hj] at hv
  simp at hv
  subst hv
  simp only [f, dif_pos hj]
  exact (Classical.choose_spec (hex j hj)).2 c hcj
theorem RV.run {P : Program} {s : St} {r : ResultVar} {av : AV} (h : RV P s r av) {X : Nat → Prop} {w : World} {a : Act} (hs : SR X w s a) : ∃ v, (rvRun a.tmps r).run P w = .ok v w ∧ AVR (Xh X s.h) w av v := by
  cases h with
  | tmp h => exact ⟨_, rfl, h ▸ hs.tm _⟩
  | cell1 ht ha hp hi hc =>
    rename_i p t d i g off b
    have h1 := hs.tm p
    rw [hp] at h1
    obtain ⟨v, hv, hA⟩ := hs.rel.cell hi hc
    exact ⟨v, by simp only [rvRun, inv_ptr h1]; simp [asAddr, loadVar, run_isAgg ht, ha, run_load_cell hv, hv], hA⟩
  | celln ht ha hsz hp hi hc hn =>
    rename_i p t d n i g off b cs
    have h1 := hs.tm p
    rw [hp] at h1
    obtain ⟨v, hv, hA⟩ := run_loadn ht ha hsz hs.rel hi hc hn
    exact ⟨v, by simp only [rvRun, inv_ptr h1]; simp [asAddr, hv], hA⟩

/-- All results. -/
inductive ResA (P : Program) (s : St) : Array ResultVar → AV → Prop where
  | none : ResA P s #[] (.tup [])
  | one {r : ResultVar} {a : AV} (h : RV P s r a) : ResA P s #[r] a
  | two {r q : ResultVar} {a b : AV} (h : RV P s r a) (k : RV P s q b) : ResA P s #[r, q] (.tup [a, b])
  | three {r q p : ResultVar} {a b c : AV} (h : RV P s r a) (k : RV P s q b) (l : RV P s p c) : ResA P s #[r, q, p] (.tup [a, b, c])
theorem results_eq (fn : Func) (tmps : Array Value) : results fn tmps = (do
    let vs ← fn.results.mapM (rvRun tmps)
    pure (if h : vs.size = 1 then vs[0] else .tuple vs)) := by
  unfold results
  congr 1
theorem ResA.run {P : Program} {s : St} {fn : Func} {r : AV} (h : ResA P s fn.results r) {X : Nat → Prop} {w : World} {a : Act} (hs : SR X w s a) : ∃ v, (results fn a.tmps).run P w = .ok v w ∧ AVR (Xh X s.h) w r v := by
  rw [results_eq]
  generalize fn.results = rs at h
  cases h with
  | none => exact ⟨.tuple #[], by simp, .tup [] [] rfl (fun i c v hc => by simp at hc)⟩
  | one h =>
    obtain ⟨v, hv, hA⟩ := h.run hs
    exact ⟨v, by simp [hv], hA⟩
  | two h k =>
    obtain ⟨v, hv, hA⟩ := h.run hs
    obtain ⟨u, hu, hB⟩ := k.run hs
    exact ⟨.tuple #[v, u], by simp [hv, hu], (AVs.cons hA (.cons hB .nil)).tup⟩
  | three h k l =>
    obtain ⟨v, hv, hA⟩ := h.run hs
    obtain ⟨u, hu, hB⟩ := k.run hs
    obtain ⟨t, ht, hC⟩ := l.run hs
    exact ⟨.tuple #[v, u, t], by simp [hv, hu, ht], (AVs.cons hA (.cons hB (.cons hC .nil))).tup⟩

/-- The marks of loops over functions are taken off. -/
inductive Und : St → St → Prop where
  | done {s : St} (h : s.ds = []) : Und s s
  | step {s s0 : St} {i r : Nat} {ds : List Nat} (hd : s.ds = r :: ds) (hi : s.h[i]? = some (r, .obj (.deferred (some [])))) (h : Und { s with h := s.h.eraseIdx i, ds := ds } s0) : Und s s0

/-- One value seen as another, blocks being given up. -/
def Cast (h : H) (r : AV) (h' : H) (r' : AV) : Prop := ∀ (X : Nat → Prop) (w : World) (v : Value), Rel X w h → AVR (Xh X h) w r v → Rel X w h' ∧ AVR (Xh X h') w r' v ∧ (∀ g, g ∈ keys h' → g ∈ keys h)
theorem Cast.refl (h : H) (r : AV) : Cast h r h r := fun X w v hr hv => ⟨hr, hv, fun _ hg => hg⟩
theorem Cast.drop {h h' : H} (r : AV) (hs : List.Sublist h' h) : Cast h r h' r := fun X w v hr hv =>
  ⟨hr.drop hs, hv.mono ⟨Nat.le_refl _, fun i hi hn => ⟨fun hx => hn (hx.imp id (fun hm => (hs.map Prod.fst).subset hm)), rfl⟩⟩, fun g hg => (hs.map Prod.fst).subset hg⟩

def retQ (P : Program) (rs : Array ResultVar) (Post : AV → H → Prop) : Exit → St → Prop
  | .normal, s | .ret, s => ∃ s0 r h' r', Und s s0 ∧ ResA P s0 rs r ∧ Cast s0.h r h' r' ∧ Post r' h'
  | _, _ => False

theorem setObj_heap (w : World) (r : Nat) (o : Obj) (k : Nat) (h : k ≠ r) : ({ w with heap := w.heap.setIfInBounds r o } : World).heap[k]? = w.heap[k]? := by simp [Array.getElem?_setIfInBounds, Ne.symm h]
theorem und_leaves {P : Program} {fn : Func} {R : Ending → World → Prop} {s s0 : St} (u : Und s s0) {X : Nat → Prop} {w0 w : World} {h0 : H} {a : Act} (hs : SR X w s a) (st : Step h0 s.h w0 w)
    (hR : ∀ w' a', a'.tmps = a.tmps → SR X w' s0 a' → Step h0 s0.h w0 w' → LeavesInM (AF none) 0 P fn a.tmps R [] .returning w') : LeavesInM (AF none) 0 P fn a.tmps R a.defers .returning w := by
  induction u generalizing w a with
  | done h =>
    have hd := hs.ds
    rw [h] at hd
    simp only [List.map_nil] at hd
    rw [hd]
    exact hR w a rfl hs st
  | step hd hi h ih =>
    rename_i s s0 i r ds
    have hdd := hs.ds
    rw [hd] at hdd
    simp only [List.map_cons] at hdd
    rw [hdd]
    have hB := hs.rel.blk r _ (List.mem_of_getElem? hi)
    have hB : w.heap[r]? = some (.deferred (some [])) := hB
    refine ⟨by simp, .inl ⟨r, _, rfl, run_takeDeferred hB, ?_⟩⟩
    have hsub : List.Sublist (s.h.eraseIdx i) s.h := List.eraseIdx_sublist ..
    have hrk := mem_keys hi
    have hrn : r ∉ keys (s.h.eraseIdx i) := by
      intro hm
      have hnd := hs.rel.nodup
      have hil : i < s.h.length := (List.getElem?_eq_some_iff.1 hi).1
      have e : (keys s.h) = keys (s.h.take i) ++ r :: keys (s.h.drop (i + 1)) := by
        have := List.take_append_drop i s.h
        have h2 : s.h.drop i = (r, .obj (.deferred (some []))) :: s.h.drop (i + 1) := by
          rw [List.drop_eq_getElem_cons hil]
          congr 1
          exact (List.getElem?_eq_some_iff.1 hi).2
        conv => lhs; rw [← this, h2]
        simp [keys]
      rw [e] at hnd
      have h3 : keys (s.h.eraseIdx i) = keys (s.h.take i) ++ keys (s.h.drop (i + 1)) := by rw [List.eraseIdx_eq_take_drop_succ]; simp [keys]
      rw [h3, List.mem_append] at hm
      have := List.nodup_append.1 hnd
      rcases hm with hm | hm
      · exact this.2.2 r hm r (by simp) rfl
      · exact (List.nodup_cons.1 this.2.1).1 hm
    have hs1 : SR X w { s with h := s.h.eraseIdx i } a := hs.drop hsub
    have r1 := hs1.rel
    -- the block is shut
    have hsz : ({ w with heap := w.heap.setIfInBounds r (.deferred none) } : World).heap.size = w.heap.size := by simp
    have hkeep : Keep (Xh X (s.h.eraseIdx i)) w (Xh X (s.h.eraseIdx i)) w := ⟨Nat.le_refl _, fun i hi hn => ⟨hn, rfl⟩⟩
    have hrX : ¬ X r := hs.rel.notX r hrk
    have hk2 : Keep (Xh X s.h) w (Xh X (s.h.eraseIdx i)) { w with heap := w.heap.setIfInBounds r (.deferred none) } := by
      refine ⟨by simp, fun k hk hn => ⟨fun hx => hn (hx.imp id (fun hm => (hsub.map Prod.fst).subset hm)), setObj_heap w r _ k (fun e => hn (.inr (e ▸ hrk)))⟩⟩
    refine ih (a := { a with defers := ds.map _ }) ⟨⟨r1.nodup, r1.notX, fun g hg => Nat.lt_of_lt_of_eq (r1.lt g hg) hsz.symm, fun g hx => Nat.lt_of_lt_of_eq (r1.xlt g hx) hsz.symm, fun g b hb => ?_, hs.rel.glob.mono hk2⟩, hs.size, fun t => (hs.tm t).mono hk2, rfl⟩ ?_ (fun w' a' ha => hR w' a' ha)
    · have hgk : g ∈ keys (s.h.eraseIdx i) := List.mem_map.2 ⟨_, hb, rfl⟩
      exact (hs.rel.blk g b (hsub.subset hb)).mono hk2 (setObj_heap w r _ g (fun e => hrn (e ▸ hgk)))
    · refine st.trans ⟨rfl, rfl, rfl, by simp, fun k hk hn => setObj_heap w r _ k (fun e => hn (e ▸ hrk)), fun g hg => .inl ((hsub.map Prod.fst).subset hg)⟩

/-- A function's contract from its body. -/
theorem acalls_of {P : Program} {f : FuncId} {fn : Func} {c : Code} {n : Nat} {rs : Array ResultVar} {args : List AV} {h : H} {Post : AV → H → Prop} (hf : P.funcs[f]? = some fn) (hb : fn.body = some c) (hn : fn.ntmps = n) (hrs : fn.results = rs) (hle : args.length ≤ n)
    (hbody : awp none P c (retQ P rs Post) ⟨n, tmOf 0 args, h, []⟩) : ACalls P f args h Post := by
  subst hrs
  intro X w vals hr hv
  refine callsIn_of_wp_marks hf hb trivial ?_
  have hvl : vals.length = args.length := hv.1
  have hs : SR X w ⟨n, tmOf 0 args, h, []⟩ { tmps := vals.toArray ++ Array.replicate (fn.ntmps - vals.toArray.size) undef, defers := [] } := by
    refine ⟨hr, ?_, fun t => ?_, rfl⟩
    · simp [hn, hvl]; omega
    · show AVR (Xh X h) w (look (tmOf 0 args) t) _
      rw [look_tmOf, if_pos (Nat.zero_le _), Nat.sub_zero]
      rw [Array.getD_eq_getD_getElem?, Array.getElem?_append]
      by_cases ht : t < args.length
      · rw [if_pos (by simpa [hvl] using ht), List.getElem?_eq_getElem ht]
        have hlt : t < vals.length := by omega
        simp only [List.getElem?_toArray, List.getElem?_eq_getElem hlt, Option.getD_some]
        exact hv.2 t _ _ (List.getElem?_eq_getElem ht) (List.getElem?_eq_getElem hlt)
      · rw [List.getElem?_eq_none (by omega)]
        exact .junk _
  refine wpIn_mono (hbody X w _ hs) ?_
  rintro e a' w' ⟨s', q, r', st⟩
  have main : (∃ s0 r h' r', Und s' s0 ∧ ResA P s0 fn.results r ∧ Cast s0.h r h' r' ∧ Post r' h') → LeavesInM (AF none) 0 P fn a'.tmps (fun e w' => ∃ v r h', e = .returned v ∧ Post r h' ∧ Rel X w' h' ∧ AVR (Xh X h') w' r v ∧ Step h h' w w') a'.defers .returning w' := by
    rintro ⟨s0, r, h', rr, hu, hres, hcast, hpost⟩
    refine und_leaves hu r' st (fun w2 a2 ha hs2 st2 => ?_)
    obtain ⟨v, hrun, hA⟩ := hres.run hs2
    rw [ha] at hrun
    obtain ⟨h1, h2, h3⟩ := hcast X w2 v hs2.rel hA
    exact ⟨v, hrun, v, rr, h', rfl, hpost, h1, h2, st2.drop h3⟩
  cases e with
  | normal => exact main q
  | ret => exact main q
  | exit id => exact q.elim
  | goto l => exact q.elim
  | panic c => exact q.elim
  | outgrown => exact q.elim
end Go.Proofs.YtjnkbmodcddbkaaDoor
