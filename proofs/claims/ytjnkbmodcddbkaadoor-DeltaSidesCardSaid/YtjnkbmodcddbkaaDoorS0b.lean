/- Going through a text's code points; a panic is recovered. -/
import Derived.Test.YtjnkbmodcddbkaaDoorS0
import Derived.Recover
import Derived.Defers
import Derived.Tactics
import Derived.Tactics2
import Derived.Laws.Pointers
set_option linter.unusedVariables false
set_option linter.unusedSimpArgs false
namespace Go.Proofs.YtjnkbmodcddbkaaDoor
open Go Go.RowKit

theorem ta_bad (v : Value) (w : World) : (Instr.typeAssert (.iface 153 v) 20 153 true).run Tryd.prog w = .ok (.tuple #[v, .bool true]) w := by
  unfold Instr.typeAssert
  simp only [Sem.run_bind, run_underlying Tryd.underlying153, Result.andThen]
  rfl
theorem f130_panics (p : Addr) (n : Int) (x : Bool) (w : World) (hc : w.cell? p = some (.bool x)) (hz : w.frozen? p = false) :
    CallsD Tryd.prog 130 #[.pointer (some p)] (.panicking [{ v := .iface 153 (.agg #[.int .i64 n]), recovered := false }]) w fun e u' w' =>
      e = .returned (.tuple #[]) ∧ u' = .panicking [{ v := .iface 153 (.agg #[.int .i64 n]), recovered := true }] ∧ w' = (w.setCell p (.bool true)).setCell p (.bool false) := by
  refine callsD_of_wpS Tryd.func130 rfl fun c₀ cs hu => ?_
  apply wpS_seq
  apply wpS_region
  simp [wpOpsS, go_sem, recoverD, hu, Tryd.ntmps130, Exit.thenS]
  apply wpS_seq
  apply wpS_region
  simp [wpOpsS, go_sem, recoverD, hu, Tryd.ntmps130, Exit.thenS]
  refine wpS_cond (t := true) (by simp [Act.eval, Array.replicate]) ?_
  simp only [if_true]
  apply wpS_seq
  apply wpS_region
  simp [wpOpsS, go_sem, hc, hz, Exit.thenS, ta_bad, recoverD, storeCells]
  have hc2 : (w.setCell p (.bool true)).cell? p = some (.bool true) := World.cell?_setCell_same _ _ _ hc
  have hz2 : (w.setCell p (.bool true)).frozen? p = false := by simpa [go_sem] using hz
  apply wpS_region
  simp [wpOpsS, go_sem, hc2, hz2, storeCells, bodyPostS, results, Tryd.results130]
theorem f130_idle (p : Addr) (w : World) :
    CallsD Tryd.prog 130 #[.pointer (some p)] .returning w fun e u' w' => e = .returned (.tuple #[]) ∧ u' = .returning ∧ w' = w := by
  refine callsD_of_wpS Tryd.func130 rfl fun c₀ cs hu => ?_
  apply wpS_seq
  apply wpS_region
  simp [wpOpsS, go_sem, recoverD, hu, Tryd.ntmps130, Exit.thenS]
  apply wpS_seq
  apply wpS_region
  simp [wpOpsS, go_sem, recoverD, hu, Tryd.ntmps130, Exit.thenS]
  refine wpS_cond (t := false) (by simp [Act.eval, Array.replicate]) ?_
  simp only [Bool.false_eq_true, if_false]
  refine wpS_of_wp (wp_skip ?_)
  cases c₀
  simp_all [bodyPostS, results, Tryd.results130]
/-- A block given up may be turned. -/
theorem rel_off {X : Nat → Prop} {w w' : World} {b : Nat} {bk : Blk} {h : H} (hr : Rel X w ((b, bk) :: h)) (h1 : w'.os = w.os) (h2 : w'.tape = w.tape) (h3 : w'.output = w.output) (h4 : w'.heap.size = w.heap.size) (hk : ∀ k, k ≠ b → w'.heap[k]? = w.heap[k]?) : Rel X w' h ∧ Step ((b, bk) :: h) h w w' := by
  have hnd := List.nodup_cons.1 hr.nodup
  have hln : b ∉ keys h := hnd.1
  have st : Step ((b, bk) :: h) h w w' := ⟨h1, h2, h3, Nat.le_of_eq h4.symm, fun i hi hkk => hk i (fun e => hkk (by rw [e]; simp [keys])), fun g hg => .inl (List.mem_cons_of_mem _ hg)⟩
  refine ⟨⟨hnd.2, fun g hg => hr.notX g (List.mem_cons_of_mem _ hg), fun g hg => ?_, fun g hx => ?_, fun g b2 hm => ?_, hr.glob.mono st.keeps⟩, st⟩
  · rw [h4]; exact hr.lt g (List.mem_cons_of_mem _ hg)
  · rw [h4]; exact hr.xlt g hx
  · have hgk : g ∈ keys h := List.mem_map.2 ⟨_, hm, rfl⟩
    exact (hr.blk g b2 (List.mem_cons_of_mem _ hm)).mono st.keeps (hk g (fun e => hln (e ▸ hgk)))
theorem f120_done {X : Nat → Prop} {w w1 w' w'' : World} {b : Nat} {x y : Nat × Blk} {bk bk0 : Blk} (hr2 : Rel X w' ([x] ++ [(b, bk)])) (st2 : Step [(b, bk0), y] ([x] ++ [(b, bk)]) w1 w') (st1 : Step [y] [(b, bk0), y] w w1) (hk : ∀ k, k ≠ b → w''.heap[k]? = w'.heap[k]?) (h1 : w''.os = w'.os) (h2 : w''.tape = w'.tape) (h3 : w''.output = w'.output) (h4 : w''.heap.size = w'.heap.size) :
    Rel X w'' [x] ∧ Step [y] [x] w w'' := by
  have hp : ([x] ++ [(b, bk)]).Perm ((b, bk) :: [x]) := List.Perm.swap _ _ _
  obtain ⟨a1, a2⟩ := rel_off (hr2.perm hp) h1 h2 h3 h4 hk
  exact ⟨a1, (st1.trans (st2.perm hp)).trans a2⟩
theorem f120_at (s : ByteArray) (hs : s.size ≤ 1000) (g : Nat) : ACalls Tryd.prog 120 [.d (.s s), .fn (.func 121) [.ptr g 0]] [(g, .var 3 [.d (.i .i64 0)])] (fun r h' => ∃ k, r = .d (.b (decide (0 ≤ runesR s))) ∧ h' = [(g, .var 3 [.d (.i .i64 k)])] ∧ (0 ≤ runesR s → k = runesR s)) := by
  intro X w vals hr hv
  obtain ⟨v1, rs, rfl, h1, h2⟩ := hv.cons_inv
  obtain ⟨v2, rs, rfl, h3, h4⟩ := h2.cons_inv
  obtain rfl := h4.nil_inv
  rw [inv_s h1]
  obtain ⟨cvs, e2, h5⟩ := inv_fn h3
  obtain ⟨v3, rs, rfl, h6, h7⟩ := h5.cons_inv
  obtain rfl := h7.nil_inv
  rw [inv_ptr h6] at e2
  subst e2
  refine callsIn_wide.2 ?_
  have hmf : ∀ (fn : Fn) (first cap : Array Value) (w : World), (Instr.makeFunc fn first cap).run Tryd.prog w = .ok (.func fn first cap) w := fun _ _ _ _ => rfl
  -- what the going through comes to, in the world with the answer's block
  have r1 := Rel.cons (w' := w.alloc (.cells #[.bool false] 4)) (g := w.heap.size) (b := .var 4 [.d (.b false)]) hr rfl rfl rfl (by simp) (fun k hk => alloc_below w _ hk) ⟨Nat.le_refl _, by simp⟩ (fun _ => ⟨[.bool false], World.alloc_heap_new w _, .cons (mk_b false) .nil⟩)
  have p1 : ((w.heap.size, Blk.var 4 [.d (.b false)]) :: [(g, Blk.var 3 [.d (.i .i64 0)])]).Perm ([(g, Blk.var 3 [.d (.i .i64 0)])] ++ [(w.heap.size, Blk.var 4 [.d (.b false)])]) := List.Perm.swap _ _ _
  have hcall := f131_p s hs g _ _ [.string s, .func (.func 121) #[] #[.pointer (some ⟨g, 0, none⟩)]] (r1.1.part p1) (.cons (mk_s s) (.cons (.fn (.func 121) [.ptr g 0] [.pointer (some ⟨g, 0, none⟩)] rfl (fun i c v hc hv => by
    cases i with
    | zero => simp at hc hv; subst hc; subst hv; exact .ptr g 0
    | succ i => simp at hc)) .nil))
  have hcall := callsIn_wide.1 hcall
  go_enter_defers Tryd.func120, Tryd.ntmps120
  go_wp2_with (go_at_call 131; refine hcall.mono ?_)
  · rintro e w' (⟨h', ⟨hneg, k, rfl⟩, hr', st', n, rfl⟩ | ⟨h', ⟨hpos, rfl⟩, hr', st', v, rfl⟩)
    · have hb : w'.heap[w.heap.size]? = some (.cells #[.bool false] 4 (0, 0)) := by
        rw [st'.keep _ (by simp) (by simp [keys]; intro e; have := r1.1.nodup; simp [keys] at this; exact this e)]
        exact World.alloc_heap_new w _
      obtain ⟨hr2, st2⟩ := r1.1.join p1 hr' st'
      simp only
      refine leaves_cons (f := 130) (args := #[.pointer (some ⟨w.heap.size, 0, none⟩)]) (by simp) (by simp [go_sem]) ?_
      refine (f130_panics ⟨w.heap.size, 0, none⟩ n false _ ?_ ?_).mono ?_
      · simp [World.cell?, hb]
      · simp [World.frozen?, hb]
      rintro e u' w'' ⟨rfl, rfl, rfl⟩
      have hc1 : w'.cell? ⟨w.heap.size, 0, none⟩ = some (.bool false) := by simp [World.cell?, hb]
      have hc2 := World.cell?_setCell_same w' ⟨w.heap.size, 0, none⟩ (.bool true) hc1
      have hc3 := World.cell?_setCell_same (w'.setCell ⟨w.heap.size, 0, none⟩ (.bool true)) ⟨w.heap.size, 0, none⟩ (.bool false) hc2
      have hw := f120_done (w'' := (w'.setCell ⟨w.heap.size, 0, none⟩ (.bool true)).setCell ⟨w.heap.size, 0, none⟩ (.bool false)) hr2 st2 r1.2 (fun k hk => (Below.heap_setCell _ _ _ k hk).trans (Below.heap_setCell _ _ _ k hk)) rfl rfl rfl (by simp [World.setCell])
      refine ⟨.bool false, by simp [results, Tryd.results120, go_sem, hc3], .bool false, _, _, rfl, ⟨k, rfl, rfl, fun h => by omega⟩, hw.1, ?_, hw.2⟩
      rw [decide_eq_false (by omega)]
      exact mk_b _
    · rename_i Q' K1 hK1 K0 hK0
      simp only
      refine hK0 _ _ ?_
      show Exit.then K1 Q' .normal _ _
      refine hK1 _ _ ?_
      have hb : w'.heap[w.heap.size]? = some (.cells #[.bool false] 4 (0, 0)) := by
        rw [st'.keep _ (by simp) (by simp [keys]; intro e; have := r1.1.nodup; simp [keys] at this; exact this e)]
        exact World.alloc_heap_new w _
      have hc1 : w'.cell? ⟨w.heap.size, 0, none⟩ = some (.bool false) := by simp [World.cell?, hb]
      have hz1 : w'.frozen? ⟨w.heap.size, 0, none⟩ = false := by simp [World.frozen?, hb]
      obtain ⟨hr2, st2⟩ := r1.1.join p1 hr' st'
      go_wp2
      have hc2 := World.cell?_setCell_same w' ⟨w.heap.size, 0, none⟩ (.bool true) hc1
      have hw := f120_done (w'' := w'.setCell ⟨w.heap.size, 0, none⟩ (.bool true)) hr2 st2 r1.2 (fun k hk => Below.heap_setCell _ _ _ k hk) rfl rfl rfl (by simp [World.setCell])
      refine leaves_cons (f := 130) (args := #[.pointer (some ⟨w.heap.size, 0, none⟩)]) (by simp) (by simp [go_sem]) ?_
      refine (f130_idle ⟨w.heap.size, 0, none⟩ _).mono ?_
      rintro e u' w'' ⟨rfl, rfl, rfl⟩
      refine ⟨.bool true, by simp [results, Tryd.results120, go_sem, hc2], .bool true, _, _, rfl, ⟨runesR s, rfl, rfl, fun _ => rfl⟩, hw.1, ?_, hw.2⟩
      rw [decide_eq_true hpos]
      exact mk_b _
end Go.Proofs.YtjnkbmodcddbkaaDoor
