/- DeltaSides. -/
import Derived.Test.YtjnkbmodcddbkaaDoorTy
import Derived.Test.YtjnkbmodcddbkaaDoorL5
import Derived.Test.YtjnkbmodcddbkaaDoorS17
set_option linter.unusedVariables false
set_option linter.unusedSimpArgs false
namespace Go.Proofs.YtjnkbmodcddbkaaDoor
open Go Go.RowKit
section
variable {ro : Option Nat} {P : Program} {h : H} {ρ : Operand → AV} {o : Oper} {av : AV}
theorem opv_neq_b {t t' : TypeId} {x y : Operand} {p q : Bool} (ht : P.underlying t = some .bool) (ho : o.op = .binOp .neq t x y t') (hx : ρ x = .d (.b p)) (hy : ρ y = .d (.b q)) (hav : av = .d (.b (!decide (p = q)))) : OpV ro P h ρ o av :=
  opv_pure (by simp [ho]) fun X w a _ hops => ⟨.bool (!decide (p = q)), by
    have h1 := hops x (by simp [ho, Op.operands]); rw [hx] at h1
    have h2 := hops y (by simp [ho, Op.operands]); rw [hy] at h2
    have hg : (eqGuard .neq t x y (.bool p) (.bool q)).run P w = .ok () w := by unfold eqGuard; split <;> simp
    have he : (Op.equal t (.bool p) (.bool q)).run P w = .ok (decide (p = q)) w := eq_bool (dd := 9999) ht
    have hb : (binOp .neq t (.bool p) (.bool q)).run P w = .ok (.bool (!decide (p = q))) w := by
      simp [binOp, he, Result.andThen]
    simp [execOp, ho, inv_b h1, inv_b h2, hb, hg, Result.andThen], hav ▸ mk_b _⟩
end
theorem chgP_len {a b : Trie} (ha : a.cnt ≤ 100000) (hb : b.cnt ≤ 100000) : (chgP a b).length ≤ 1000000 := by
  have h1 := entriesR_len a ha
  have h2 := entriesR_len b hb
  unfold chgP
  split
  · have h3 := chgs_len (sidesF ((entriesR a).length + (entriesR b).length + 1) (entriesR a) (entriesR b) [])
    have h4 := sidesF_len ((entriesR a).length + (entriesR b).length + 1) (entriesR a) (entriesR b) []
    omega
  · simp
theorem f6_spec (ta tb tc : Trie) (ha : ta.lab) (hb : tb.lab) (hc : tc.lab) : FSpec Tryd.prog 6 [aTrie ta, aTrie tb, aTrie tc] (.d (.b true)) := by
  show FSpec _ _ [.agg [.d (.s ta.label), .d (dRows ta.rows), .d (.sl (encTries ta.kids))], .agg [.d (.s tb.label), .d (dRows tb.rows), .d (.sl (encTries tb.kids))], .agg [.d (.s tc.label), .d (dRows tc.rows), .d (.sl (encTries tc.kids))]] _
  refine acalls_of Tryd.func6 rfl Tryd.ntmps6 Tryd.results6 (by simp) ?_
  refine awp_seq ?_
  refine awp_region ?_
  refine l_box (.plain rfl) rfl rfl rfl (.t .here) rfl rfl (fun g1 ng1 => ?_)
  refine l_box (.plain rfl) rfl rfl rfl (.t (.n 1 2 rfl)) rfl rfl (fun g2 ng2 => ?_)
  refine l_box (.plain rfl) rfl rfl rfl (.t (.n 2 4 rfl)) rfl rfl (fun g3 ng3 => ?_)
  refine lv (.plain rfl) rfl rfl (opv_assign rfl (Ev.eq .b)) ?_
  refine awpL_nil ?_
  refine awp_seq ?_
  refine awp_seq ?_
  refine awp_region ?_
  refine lv (.plain rfl) rfl rfl (q_loadn (agT25) rfl (Ev.eq (.t (.n 3 3 rfl))) (.there (.there .here)) rfl) ?_
  refine lv (.plain rfl) rfl rfl (q_call rfl .f Tryd.call8 (.cons (.t .here) .nil) rfl (f8_spec ta ha)) ?_
  refine lv (.plain rfl) rfl rfl (opv_not rfl (Ev.eq (.t .here)) rfl) ?_
  refine lv (.plain rfl) rfl rfl (opv_move rfl (Ev.eq (.t .here))) ?_
  refine lsplit (.n 27 2 rfl) (fun h27 => ?_) (fun h27 => ?_)
  ·
   have q27 := h27
   try simp only [zs, List.length_map, bl_inj] at q27
   refine lv (.on rfl rfl .here (congrArg not h27)) rfl rfl (q_loadn (agT25) rfl (Ev.eq (.t (.n 4 6 rfl))) (.there .here) rfl) ?_
   refine lv (.on rfl rfl (.n 29 1 rfl) (congrArg not h27)) rfl rfl (q_call rfl .f Tryd.call8 (.cons (.t .here) .nil) rfl (f8_spec tb hb)) ?_
   refine lv (.on rfl rfl (.n 29 2 rfl) (congrArg not h27)) rfl rfl (opv_not rfl (Ev.eq (.t .here)) rfl) ?_
   refine lv (.plain rfl) rfl rfl (opv_pick_f rfl (Ev.eq (.t (.n 29 3 rfl))) (congrArg not h27) (Ev.eq (.t .here))) ?_
   refine lv (.plain rfl) rfl rfl (opv_move rfl (Ev.eq (.t .here))) ?_
   refine lsplit (.n 31 3 rfl) (fun h31 => ?_) (fun h31 => ?_)
   ·
    have q31 := h31
    try simp only [zs, List.length_map, bl_inj] at q31
    refine lv (.on rfl rfl .here (congrArg not h31)) rfl rfl (q_loadn (agT25) rfl (Ev.eq (.t (.n 5 10 rfl))) .here rfl) ?_
    refine lv (.on rfl rfl (.n 34 1 rfl) (congrArg not h31)) rfl rfl (q_call rfl .f Tryd.call8 (.cons (.t .here) .nil) rfl (f8_spec tc hc)) ?_
    refine lv (.on rfl rfl (.n 34 2 rfl) (congrArg not h31)) rfl rfl (opv_not rfl (Ev.eq (.t .here)) rfl) ?_
    refine lv (.plain rfl) rfl rfl (opv_pick_f rfl (Ev.eq (.t (.n 34 3 rfl))) (congrArg not h31) (Ev.eq (.t .here))) ?_
    refine lv (.plain rfl) rfl rfl (opv_move rfl (Ev.eq (.t .here))) ?_
    refine lsplit (.n 36 3 rfl) (fun h36 => ?_) (fun h36 => ?_)
    ·
     have q36 := h36
     try simp only [zs, List.length_map, bl_inj] at q36
     refine lv (.on rfl rfl .here (congrArg not h36)) rfl rfl (q_loadn (agT25) rfl (Ev.eq (.t (.n 3 17 rfl))) (.there (.there .here)) rfl) ?_
     refine lv (.on rfl rfl (.n 39 1 rfl) (congrArg not h36)) rfl rfl (q_call rfl .f Tryd.call15 (.cons (.t .here) .nil) rfl (f15_spec ta)) ?_
     refine lv (.on rfl rfl (.n 39 2 rfl) (congrArg not h36)) rfl rfl (opv_neq_i rfl (Ev.eq (.t .here)) (Ev.eq .i) rfl) ?_
     refine lv (.plain rfl) rfl rfl (opv_pick_f rfl (Ev.eq (.t (.n 39 3 rfl))) (congrArg not h36) (Ev.eq (.t .here))) ?_
     refine lv (.plain rfl) rfl rfl (opv_move rfl (Ev.eq (.t .here))) ?_
     refine lsplit (.n 42 2 rfl) (fun h42 => ?_) (fun h42 => ?_)
     ·
      have q42 := h42
      try simp only [zs, List.length_map, bl_inj] at q42
      refine lo (.off rfl rfl .here h42) rfl rfl ?_
      refine lo (.off rfl rfl (.n 44 1 rfl) h42) rfl rfl ?_
      refine lo (.off rfl rfl (.n 44 2 rfl) h42) rfl rfl ?_
      refine lv (.plain rfl) rfl rfl (opv_pick_t rfl (Ev.eq (.t (.n 44 3 rfl))) h42 (Ev.eq .b)) ?_
      refine lv (.plain rfl) rfl rfl (opv_move rfl (Ev.eq (.t .here))) ?_
      refine lo (.off rfl rfl .here rfl) rfl rfl ?_
      refine lo (.off rfl rfl (.n 49 1 rfl) rfl) rfl rfl ?_
      refine lo (.off rfl rfl (.n 49 2 rfl) rfl) rfl rfl ?_
      refine lv (.plain rfl) rfl rfl (opv_pick_t rfl (Ev.eq (.t (.n 49 3 rfl))) rfl (Ev.eq .b)) ?_
      refine awpL_nil ?_
      refine pcond_t (.t .here) rfl ?_
      refine awp_seq ?_
      refine awp_region ?_
      refine lv (.plain rfl) rfl rfl (q_call rfl .f Tryd.call9 .nil rfl (f9_spec)) ?_
      refine lv (.plain rfl) rfl rfl (opv_assign rfl (Ev.eq (.t .here))) ?_
      refine awpL_nil ?_
      refine awp_ret ?_
      refine ret_now (.one (rv_t .here)) (Cast.all _ _) ?_
      exact ⟨rfl, rfl⟩
     ·
      have q42 := h42
      try simp only [zs, List.length_map, bl_inj] at q42
      refine lv (.on rfl rfl .here h42) rfl rfl (q_loadn (agT25) rfl (Ev.eq (.t (.n 4 21 rfl))) (.there .here) rfl) ?_
      refine lv (.on rfl rfl (.n 44 1 rfl) h42) rfl rfl (q_call rfl .f Tryd.call15 (.cons (.t .here) .nil) rfl (f15_spec tb)) ?_
      refine lv (.on rfl rfl (.n 44 2 rfl) h42) rfl rfl (opv_neq_i rfl (Ev.eq (.t .here)) (Ev.eq .i) rfl) ?_
      refine lv (.plain rfl) rfl rfl (opv_pick_f rfl (Ev.eq (.t (.n 44 3 rfl))) h42 (Ev.eq (.t .here))) ?_
      refine lv (.plain rfl) rfl rfl (opv_move rfl (Ev.eq (.t .here))) ?_
      refine lsplit (.n 47 2 rfl) (fun h47 => ?_) (fun h47 => ?_)
      ·
       have q47 := h47
       try simp only [zs, List.length_map, bl_inj] at q47
       refine lo (.off rfl rfl .here h47) rfl rfl ?_
       refine lo (.off rfl rfl (.n 49 1 rfl) h47) rfl rfl ?_
       refine lo (.off rfl rfl (.n 49 2 rfl) h47) rfl rfl ?_
       refine lv (.plain rfl) rfl rfl (opv_pick_t rfl (Ev.eq (.t (.n 49 3 rfl))) h47 (Ev.eq .b)) ?_
       refine awpL_nil ?_
       refine pcond_t (.t .here) rfl ?_
       refine awp_seq ?_
       refine awp_region ?_
       refine lv (.plain rfl) rfl rfl (q_call rfl .f Tryd.call9 .nil rfl (f9_spec)) ?_
       refine lv (.plain rfl) rfl rfl (opv_assign rfl (Ev.eq (.t .here))) ?_
       refine awpL_nil ?_
       refine awp_ret ?_
       refine ret_now (.one (rv_t .here)) (Cast.all _ _) ?_
       exact ⟨rfl, rfl⟩
      ·
       have q47 := h47
       try simp only [zs, List.length_map, bl_inj] at q47
       refine lv (.on rfl rfl .here h47) rfl rfl (q_loadn (agT25) rfl (Ev.eq (.t (.n 5 25 rfl))) .here rfl) ?_
       refine lv (.on rfl rfl (.n 49 1 rfl) h47) rfl rfl (q_call rfl .f Tryd.call15 (.cons (.t .here) .nil) rfl (f15_spec tc)) ?_
       refine lv (.on rfl rfl (.n 49 2 rfl) h47) rfl rfl (opv_neq_i rfl (Ev.eq (.t .here)) (Ev.eq .i) rfl) ?_
       refine lv (.plain rfl) rfl rfl (opv_pick_f rfl (Ev.eq (.t (.n 49 3 rfl))) h47 (Ev.eq (.t .here))) ?_
       refine awpL_nil ?_
       refine psplit (.n 52 1 rfl) (fun h52 => ?_) (fun h52 => ?_)
       ·
        have q52 := h52
        try simp only [zs, List.length_map, bl_inj] at q52
        refine pcond_t (.t .here) h52 ?_
        refine awp_seq ?_
        refine awp_region ?_
        refine lv (.plain rfl) rfl rfl (q_call rfl .f Tryd.call9 .nil rfl (f9_spec)) ?_
        refine lv (.plain rfl) rfl rfl (opv_assign rfl (Ev.eq (.t .here))) ?_
        refine awpL_nil ?_
        refine awp_ret ?_
        refine ret_now (.one (rv_t .here)) (Cast.all _ _) ?_
        exact ⟨rfl, rfl⟩
       ·
        have q52 := h52
        try simp only [zs, List.length_map, bl_inj] at q52
        refine pcond_f (.t .here) h52 ?_
        refine awp_skip ?_
        refine awp_seq ?_
        have hra := erI_ok q42
        have hrb := erI_ok q47
        have hrc := erI_ok q52
        have hXl := chgP_len (small_cnt (by simpa using q27)) (small_cnt (by simpa using q31))
        have hYl := chgP_len (small_cnt (by simpa using q27)) (small_cnt (by simpa using q36))
        have hYs := chg_sorted hra hrc
        have hbad := merge_bad hra hrb hrc
        have he := merge_e hra hrb hrc
        refine awp_region ?_
        refine lv (.plain rfl) rfl rfl (q_loadn (agT25) rfl (Ev.eq (.t (.n 3 31 rfl))) (.there (.there .here)) rfl) ?_
        refine lv (.plain rfl) rfl rfl (q_loadn (agT25) rfl (Ev.eq (.t (.n 4 31 rfl))) (.there .here) rfl) ?_
        refine lv (.plain rfl) rfl rfl (q_loadn (agT25) rfl (Ev.eq (.t (.n 5 31 rfl))) .here rfl) ?_
        refine lv (.plain rfl) rfl rfl (q_call rfl .f Tryd.call10 (.cons (.t (.n 56 2 rfl)) (.cons (.t (.n 57 1 rfl)) (.cons (.t .here) .nil))) rfl (by have h := f10_spec ta tb tc (small_cnt (by simpa using q27)) (small_cnt (by simpa using q31)) (small_cnt (by simpa using q36)); rw [merge_eq] at h; exact h)) ?_
        refine lv (.plain rfl) rfl rfl (opv_move rfl (Ev.eq (.t .here))) ?_
        refine lv (.plain rfl) rfl rfl (q_extract rfl (Ev.eq (.t .here)) .here) ?_
        refine lv (.plain rfl) rfl rfl (q_extract rfl (Ev.eq (.t (.n 55 1 rfl))) (.there .here)) ?_
        refine lv (.plain rfl) rfl rfl (q_extract rfl (Ev.eq (.t (.n 55 2 rfl))) (.there (.there .here))) ?_
        refine l_alloc zT25 (.plain rfl) rfl rfl rfl (fun g7 ng7 => ?_)
        refine l_storen Tryd.sizeOf25 (.plain rfl) rfl rfl (.t .here) (.t (.n 60 3 rfl)) rfl rfl rfl .here ?_
        refine lv (.plain rfl) rfl rfl (opv_assign rfl (Ev.eq (.t (.n 61 2 rfl)))) ?_
        refine lv (.plain rfl) rfl rfl (opv_assign rfl (Ev.eq (.t (.n 62 2 rfl)))) ?_
        refine awpL_nil ?_
        refine awp_seq ?_
        refine awp_region ?_
        refine lv (.plain rfl) rfl rfl (q_loadn (agT25) rfl (Ev.eq (.t (.n 3 42 rfl))) (.there (.there (.there .here))) rfl) ?_
        refine lv (.plain rfl) rfl rfl (q_loadn (agT25) rfl (Ev.eq (.t (.n 5 41 rfl))) (.there .here) rfl) ?_
        refine lv (.plain rfl) rfl rfl (q_loadn (agT25) rfl (Ev.eq (.t (.n 4 43 rfl))) (.there (.there .here)) rfl) ?_
        refine lv (.plain rfl) rfl rfl (q_call rfl .f Tryd.call10 (.cons (.t (.n 64 2 rfl)) (.cons (.t (.n 65 1 rfl)) (.cons (.t .here) .nil))) rfl (by have h := f10_spec ta tc tb (small_cnt (by simpa using q27)) (small_cnt (by simpa using q36)) (small_cnt (by simpa using q31)); rw [merge_eq, mergeR_swap] at h; exact h)) ?_
        refine lv (.plain rfl) rfl rfl (opv_move rfl (Ev.eq (.t .here))) ?_
        refine lv (.plain rfl) rfl rfl (q_extract rfl (Ev.eq (.t .here)) .here) ?_
        refine lv (.plain rfl) rfl rfl (q_extract rfl (Ev.eq (.t (.n 63 1 rfl))) (.there .here)) ?_
        refine lv (.plain rfl) rfl rfl (q_extract rfl (Ev.eq (.t (.n 63 2 rfl))) (.there (.there .here))) ?_
        refine l_alloc zT25 (.plain rfl) rfl rfl rfl (fun g8 ng8 => ?_)
        refine l_storen Tryd.sizeOf25 (.plain rfl) rfl rfl (.t .here) (.t (.n 68 3 rfl)) rfl rfl rfl .here ?_
        refine lv (.plain rfl) rfl rfl (opv_assign rfl (Ev.eq (.t (.n 69 2 rfl)))) ?_
        refine lv (.plain rfl) rfl rfl (opv_assign rfl (Ev.eq (.t (.n 70 2 rfl)))) ?_
        refine awpL_nil ?_
        refine awp_seq ?_
        refine awp_region ?_
        refine lv (.plain rfl) rfl rfl (q_loadn (agT25) rfl (Ev.eq (.t (.n 3 53 rfl))) (.there (.there (.there (.there .here)))) rfl) ?_
        refine lv (.plain rfl) rfl rfl (q_loadn (agT25) rfl (Ev.eq (.t (.n 3 54 rfl))) (.there (.there (.there (.there .here)))) rfl) ?_
        refine lv (.plain rfl) rfl rfl (q_loadn (agT25) rfl (Ev.eq (.t (.n 5 53 rfl))) (.there (.there .here)) rfl) ?_
        refine lv (.plain rfl) rfl rfl (q_call rfl .f Tryd.call10 (.cons (.t (.n 72 2 rfl)) (.cons (.t (.n 73 1 rfl)) (.cons (.t .here) .nil))) rfl (by have h := f10_spec ta ta tc (small_cnt (by simpa using q27)) (small_cnt (by simpa using q27)) (small_cnt (by simpa using q36)); rw [merge_eq, merge_base hra hrc] at h; exact h)) ?_
        refine lv (.plain rfl) rfl rfl (opv_move rfl (Ev.eq (.t .here))) ?_
        refine lv (.plain rfl) rfl rfl (q_extract rfl (Ev.eq (.t .here)) .here) ?_
        refine lv (.plain rfl) rfl rfl (q_extract rfl (Ev.eq (.t (.n 71 1 rfl))) (.there .here)) ?_
        refine lv (.plain rfl) rfl rfl (q_extract rfl (Ev.eq (.t (.n 71 2 rfl))) (.there (.there .here))) ?_
        refine l_alloc zT25 (.plain rfl) rfl rfl rfl (fun g9 ng9 => ?_)
        refine l_storen Tryd.sizeOf25 (.plain rfl) rfl rfl (.t .here) (.t (.n 76 3 rfl)) rfl rfl rfl .here ?_
        refine lv (.plain rfl) rfl rfl (opv_assign rfl (Ev.eq (.t (.n 77 2 rfl)))) ?_
        refine lv (.plain rfl) rfl rfl (opv_assign rfl (Ev.eq (.t (.n 78 2 rfl)))) ?_
        refine awpL_nil ?_
        refine awp_seq ?_
        refine awp_region ?_
        refine lv (.plain rfl) rfl rfl (q_loadn (agT25) rfl (Ev.eq (.t (.n 3 64 rfl))) (.there (.there (.there (.there (.there .here))))) rfl) ?_
        refine lv (.plain rfl) rfl rfl (q_loadn (agT25) rfl (Ev.eq (.t (.n 4 64 rfl))) (.there (.there (.there (.there .here)))) rfl) ?_
        refine lv (.plain rfl) rfl rfl (q_loadn (agT25) rfl (Ev.eq (.t (.n 4 65 rfl))) (.there (.there (.there (.there .here)))) rfl) ?_
        refine lv (.plain rfl) rfl rfl (q_call rfl .f Tryd.call10 (.cons (.t (.n 80 2 rfl)) (.cons (.t (.n 81 1 rfl)) (.cons (.t .here) .nil))) rfl (by have h := f10_spec ta tb tb (small_cnt (by simpa using q27)) (small_cnt (by simpa using q31)) (small_cnt (by simpa using q31)); rw [merge_eq, merge_same hra hrb] at h; exact h)) ?_
        refine lv (.plain rfl) rfl rfl (opv_move rfl (Ev.eq (.t .here))) ?_
        refine lv (.plain rfl) rfl rfl (q_extract rfl (Ev.eq (.t .here)) .here) ?_
        refine lv (.plain rfl) rfl rfl (q_extract rfl (Ev.eq (.t (.n 79 1 rfl))) (.there .here)) ?_
        refine lv (.plain rfl) rfl rfl (q_extract rfl (Ev.eq (.t (.n 79 2 rfl))) (.there (.there .here))) ?_
        refine l_alloc zT25 (.plain rfl) rfl rfl rfl (fun g10 ng10 => ?_)
        refine l_storen Tryd.sizeOf25 (.plain rfl) rfl rfl (.t .here) (.t (.n 84 3 rfl)) rfl rfl rfl .here ?_
        refine lv (.plain rfl) rfl rfl (opv_assign rfl (Ev.eq (.t (.n 85 2 rfl)))) ?_
        refine lv (.plain rfl) rfl rfl (opv_assign rfl (Ev.eq (.t (.n 86 2 rfl)))) ?_
        refine awpL_nil ?_
        refine awp_seq ?_
        refine awp_seq ?_
        refine awp_region ?_
        refine lv (.plain rfl) rfl rfl (q_loadn (agT25) rfl (Ev.eq (.t (.n 7 35 rfl))) (.there (.there (.there .here))) rfl) ?_
        refine lv (.plain rfl) rfl rfl (q_loadn (agT25) rfl (Ev.eq (.t (.n 10 25 rfl))) (.there (.there .here)) rfl) ?_
        refine lv (.plain rfl) rfl rfl (q_call rfl .f Tryd.call12 (.cons (.t (.n 87 1 rfl)) (.cons (.t .here) .nil)) rfl (by have h := f12_spec (mergeR ta tb tc).t (mergeR ta tb tc).t (rightB_lab (mergeR_right _ _ _)); rw [(sameT_iff _ _).2 rfl] at h; exact h)) ?_
        refine lv (.plain rfl) rfl rfl (opv_not rfl (Ev.eq (.t .here)) rfl) ?_
        refine lv (.plain rfl) rfl rfl (opv_move rfl (Ev.eq (.t .here))) ?_
        refine lv (.on rfl rfl .here rfl) rfl rfl (opv_move rfl (Ev.eq (.t (.n 8 39 rfl)))) ?_
        refine lv (.on rfl rfl (.n 91 1 rfl) rfl) rfl rfl (opv_len_sl Tryd.underlying28 rfl (Ev.eq (.t .here)) rfl) ?_
        refine lv (.on rfl rfl (.n 91 2 rfl) rfl) rfl rfl (opv_move rfl (Ev.eq (.t (.n 11 30 rfl)))) ?_
        refine lv (.on rfl rfl (.n 91 3 rfl) rfl) rfl rfl (opv_len_sl Tryd.underlying28 rfl (Ev.eq (.t .here)) rfl) ?_
        refine lv (.on rfl rfl (.n 91 4 rfl) rfl) rfl rfl (opv_neq_i rfl (Ev.eq (.t (.n 93 2 rfl))) (Ev.eq (.t .here)) rfl) ?_
        refine lv (.plain rfl) rfl rfl (opv_pick_f rfl (Ev.eq (.t (.n 91 5 rfl))) rfl (Ev.eq (.t .here))) ?_
        refine lv (.plain rfl) rfl rfl (opv_move rfl (Ev.eq (.t .here))) ?_
        refine lsplit (.n 96 2 rfl) (fun h96 => ?_) (fun h96 => ?_)
        ·
         have q96 := h96
         try simp only [zs, List.length_map, bl_inj] at q96
         refine lo (.off rfl rfl .here h96) rfl rfl ?_
         refine lo (.off rfl rfl (.n 98 1 rfl) h96) rfl rfl ?_
         refine lo (.off rfl rfl (.n 98 2 rfl) h96) rfl rfl ?_
         refine lv (.plain rfl) rfl rfl (opv_pick_t rfl (Ev.eq (.t (.n 98 3 rfl))) h96 (Ev.eq .b)) ?_
         refine lv (.plain rfl) rfl rfl (opv_move rfl (Ev.eq (.t .here))) ?_
         refine lo (.off rfl rfl .here rfl) rfl rfl ?_
         refine lo (.off rfl rfl (.n 103 1 rfl) rfl) rfl rfl ?_
         refine lo (.off rfl rfl (.n 103 2 rfl) rfl) rfl rfl ?_
         refine lo (.off rfl rfl (.n 103 3 rfl) rfl) rfl rfl ?_
         refine lv (.plain rfl) rfl rfl (opv_pick_t rfl (Ev.eq (.t (.n 103 4 rfl))) rfl (Ev.eq .b)) ?_
         refine lv (.plain rfl) rfl rfl (opv_move rfl (Ev.eq (.t .here))) ?_
         refine lo (.off rfl rfl .here rfl) rfl rfl ?_
         refine lo (.off rfl rfl (.n 109 1 rfl) rfl) rfl rfl ?_
         refine lv (.plain rfl) rfl rfl (opv_pick_t rfl (Ev.eq (.t (.n 109 2 rfl))) rfl (Ev.eq .b)) ?_
         refine lv (.plain rfl) rfl rfl (opv_move rfl (Ev.eq (.t .here))) ?_
         refine lo (.off rfl rfl .here rfl) rfl rfl ?_
         refine lo (.off rfl rfl (.n 113 1 rfl) rfl) rfl rfl ?_
         refine lo (.off rfl rfl (.n 113 2 rfl) rfl) rfl rfl ?_
         refine lo (.off rfl rfl (.n 113 3 rfl) rfl) rfl rfl ?_
         refine lv (.plain rfl) rfl rfl (opv_pick_t rfl (Ev.eq (.t (.n 113 4 rfl))) rfl (Ev.eq .b)) ?_
         refine lv (.plain rfl) rfl rfl (opv_move rfl (Ev.eq (.t .here))) ?_
         refine lo (.off rfl rfl .here rfl) rfl rfl ?_
         refine lo (.off rfl rfl (.n 119 1 rfl) rfl) rfl rfl ?_
         refine lv (.plain rfl) rfl rfl (opv_pick_t rfl (Ev.eq (.t (.n 119 2 rfl))) rfl (Ev.eq .b)) ?_
         refine awpL_nil ?_
         refine pcond_t (.t .here) rfl ?_
         refine awp_seq ?_
         exfalso
         simp_all
        ·
         have q96 := h96
         try simp only [zs, List.length_map, bl_inj] at q96
         refine lv (.on rfl rfl .here h96) rfl rfl (opv_move rfl (Ev.eq (.t (.n 9 45 rfl)))) ?_
         refine lv (.on rfl rfl (.n 98 1 rfl) h96) rfl rfl (opv_move rfl (Ev.eq (.t (.n 12 35 rfl)))) ?_
         refine lv (.on rfl rfl (.n 98 2 rfl) h96) rfl rfl (opv_neq_i rfl (Ev.eq (.t (.n 99 1 rfl))) (Ev.eq (.t .here)) rfl) ?_
         refine lv (.plain rfl) rfl rfl (opv_pick_f rfl (Ev.eq (.t (.n 98 3 rfl))) h96 (Ev.eq (.t .here))) ?_
         refine lv (.plain rfl) rfl rfl (opv_move rfl (Ev.eq (.t .here))) ?_
         refine lsplit (.n 101 2 rfl) (fun h101 => ?_) (fun h101 => ?_)
         ·
          have q101 := h101
          try simp only [zs, List.length_map, bl_inj] at q101
          refine lo (.off rfl rfl .here h101) rfl rfl ?_
          refine lo (.off rfl rfl (.n 103 1 rfl) h101) rfl rfl ?_
          refine lo (.off rfl rfl (.n 103 2 rfl) h101) rfl rfl ?_
          refine lo (.off rfl rfl (.n 103 3 rfl) h101) rfl rfl ?_
          refine lv (.plain rfl) rfl rfl (opv_pick_t rfl (Ev.eq (.t (.n 103 4 rfl))) h101 (Ev.eq .b)) ?_
          refine lv (.plain rfl) rfl rfl (opv_move rfl (Ev.eq (.t .here))) ?_
          refine lo (.off rfl rfl .here rfl) rfl rfl ?_
          refine lo (.off rfl rfl (.n 109 1 rfl) rfl) rfl rfl ?_
          refine lv (.plain rfl) rfl rfl (opv_pick_t rfl (Ev.eq (.t (.n 109 2 rfl))) rfl (Ev.eq .b)) ?_
          refine lv (.plain rfl) rfl rfl (opv_move rfl (Ev.eq (.t .here))) ?_
          refine lo (.off rfl rfl .here rfl) rfl rfl ?_
          refine lo (.off rfl rfl (.n 113 1 rfl) rfl) rfl rfl ?_
          refine lo (.off rfl rfl (.n 113 2 rfl) rfl) rfl rfl ?_
          refine lo (.off rfl rfl (.n 113 3 rfl) rfl) rfl rfl ?_
          refine lv (.plain rfl) rfl rfl (opv_pick_t rfl (Ev.eq (.t (.n 113 4 rfl))) rfl (Ev.eq .b)) ?_
          refine lv (.plain rfl) rfl rfl (opv_move rfl (Ev.eq (.t .here))) ?_
          refine lo (.off rfl rfl .here rfl) rfl rfl ?_
          refine lo (.off rfl rfl (.n 119 1 rfl) rfl) rfl rfl ?_
          refine lv (.plain rfl) rfl rfl (opv_pick_t rfl (Ev.eq (.t (.n 119 2 rfl))) rfl (Ev.eq .b)) ?_
          refine awpL_nil ?_
          refine pcond_t (.t .here) rfl ?_
          refine awp_seq ?_
          exfalso
          simp_all
         ·
          have q101 := h101
          try simp only [zs, List.length_map, bl_inj] at q101
          refine lv (.on rfl rfl .here h101) rfl rfl (q_loadn (agT25) rfl (Ev.eq (.t (.n 13 30 rfl))) (.there .here) rfl) ?_
          refine lv (.on rfl rfl (.n 103 1 rfl) h101) rfl rfl (q_loadn (agT25) rfl (Ev.eq (.t (.n 5 91 rfl))) (.there (.there (.there (.there .here)))) rfl) ?_
          refine lv (.on rfl rfl (.n 103 2 rfl) h101) rfl rfl (q_call rfl .f Tryd.call12 (.cons (.t (.n 104 1 rfl)) (.cons (.t .here) .nil)) rfl (by have h := f12_spec tc tc hc; rw [(sameT_iff _ _).2 rfl] at h; exact h)) ?_
          refine lv (.on rfl rfl (.n 103 3 rfl) h101) rfl rfl (opv_not rfl (Ev.eq (.t .here)) rfl) ?_
          refine lv (.plain rfl) rfl rfl (opv_pick_f rfl (Ev.eq (.t (.n 103 4 rfl))) h101 (Ev.eq (.t .here))) ?_
          refine lv (.plain rfl) rfl rfl (opv_move rfl (Ev.eq (.t .here))) ?_
          refine lv (.on rfl rfl .here rfl) rfl rfl (opv_move rfl (Ev.eq (.t (.n 15 34 rfl)))) ?_
          refine lv (.on rfl rfl (.n 109 1 rfl) rfl) rfl rfl (opv_neq_i rfl (Ev.eq (.t .here)) (Ev.eq .i) rfl) ?_
          refine lv (.plain rfl) rfl rfl (opv_pick_f rfl (Ev.eq (.t (.n 109 2 rfl))) rfl (Ev.eq (.t .here))) ?_
          refine lv (.plain rfl) rfl rfl (opv_move rfl (Ev.eq (.t .here))) ?_
          refine lsplit (.n 111 2 rfl) (fun h111 => ?_) (fun h111 => ?_)
          ·
           have q111 := h111
           try simp only [zs, List.length_map, bl_inj] at q111
           refine lo (.off rfl rfl .here h111) rfl rfl ?_
           refine lo (.off rfl rfl (.n 113 1 rfl) h111) rfl rfl ?_
           refine lo (.off rfl rfl (.n 113 2 rfl) h111) rfl rfl ?_
           refine lo (.off rfl rfl (.n 113 3 rfl) h111) rfl rfl ?_
           refine lv (.plain rfl) rfl rfl (opv_pick_t rfl (Ev.eq (.t (.n 113 4 rfl))) h111 (Ev.eq .b)) ?_
           refine lv (.plain rfl) rfl rfl (opv_move rfl (Ev.eq (.t .here))) ?_
           refine lo (.off rfl rfl .here rfl) rfl rfl ?_
           refine lo (.off rfl rfl (.n 119 1 rfl) rfl) rfl rfl ?_
           refine lv (.plain rfl) rfl rfl (opv_pick_t rfl (Ev.eq (.t (.n 119 2 rfl))) rfl (Ev.eq .b)) ?_
           refine awpL_nil ?_
           refine pcond_t (.t .here) rfl ?_
           refine awp_seq ?_
           exfalso
           simp_all
          ·
           have q111 := h111
           try simp only [zs, List.length_map, bl_inj] at q111
           refine lv (.on rfl rfl .here h111) rfl rfl (q_loadn (agT25) rfl (Ev.eq (.t (.n 16 29 rfl))) .here rfl) ?_
           refine lv (.on rfl rfl (.n 113 1 rfl) h111) rfl rfl (q_loadn (agT25) rfl (Ev.eq (.t (.n 4 102 rfl))) (.there (.there (.there (.there (.there .here))))) rfl) ?_
           refine lv (.on rfl rfl (.n 113 2 rfl) h111) rfl rfl (q_call rfl .f Tryd.call12 (.cons (.t (.n 114 1 rfl)) (.cons (.t .here) .nil)) rfl (by have h := f12_spec tb tb hb; rw [(sameT_iff _ _).2 rfl] at h; exact h)) ?_
           refine lv (.on rfl rfl (.n 113 3 rfl) h111) rfl rfl (opv_not rfl (Ev.eq (.t .here)) rfl) ?_
           refine lv (.plain rfl) rfl rfl (opv_pick_f rfl (Ev.eq (.t (.n 113 4 rfl))) h111 (Ev.eq (.t .here))) ?_
           refine lv (.plain rfl) rfl rfl (opv_move rfl (Ev.eq (.t .here))) ?_
           refine lv (.on rfl rfl .here rfl) rfl rfl (opv_move rfl (Ev.eq (.t (.n 18 33 rfl)))) ?_
           refine lv (.on rfl rfl (.n 119 1 rfl) rfl) rfl rfl (opv_neq_i rfl (Ev.eq (.t .here)) (Ev.eq .i) rfl) ?_
           refine lv (.plain rfl) rfl rfl (opv_pick_f rfl (Ev.eq (.t (.n 119 2 rfl))) rfl (Ev.eq (.t .here))) ?_
           refine awpL_nil ?_
           refine psplit (.n 121 1 rfl) (fun h121 => ?_) (fun h121 => ?_)
           ·
            have q121 := h121
            try simp only [zs, List.length_map, bl_inj] at q121
            refine pcond_t (.t .here) h121 ?_
            refine awp_seq ?_
            exfalso
            simp_all
           ·
            have q121 := h121
            try simp only [zs, List.length_map, bl_inj] at q121
            refine pcond_f (.t .here) h121 ?_
            refine awp_skip ?_
            refine awp_seq ?_
            refine g_draw mixed (kb_cons (.tail _ (.tail _ (.tail _ (.tail _ (.head _))))) (kb_cons (.tail _ (.tail _ (.tail _ (.tail _ (.tail _ (.head _)))))) (kb_cons (.tail _ (.tail _ (.tail _ (.tail _ (.tail _ (.tail _ (.head _))))))) kb_nil))) (by kernel_rfl) (fuel := 8) rfl rfl ?_
            refine g_v (listed' := bs 8 1) 0 rfl (by kernel_rfl) rfl (fun _ => .plain rfl) rfl (fun _ hK => m_loadn (agT25) rfl (Ev.eq (.t (.n 3 111 rfl))) (hK _ (.tail _ (.tail _ (.head _)))) rfl) (kb_cons (.tail _ (.tail _ (.tail _ (.tail _ (.head _))))) (kb_cons (.tail _ (.tail _ (.tail _ (.tail _ (.tail _ (.head _)))))) (kb_cons (.tail _ (.tail _ (.tail _ (.tail _ (.tail _ (.tail _ (.head _))))))) kb_nil))) ?_
            refine g_v (listed' := bs 8 3) 1 rfl (by kernel_rfl) rfl (fun _ => .plain rfl) rfl (fun _ hK => m_loadn (agT25) rfl (Ev.eq (.t (.n 4 111 rfl))) (hK _ (.tail _ (.head _))) rfl) (kb_cons (.tail _ (.tail _ (.tail _ (.tail _ (.head _))))) (kb_cons (.tail _ (.tail _ (.tail _ (.tail _ (.tail _ (.head _)))))) (kb_cons (.tail _ (.tail _ (.tail _ (.tail _ (.tail _ (.tail _ (.head _))))))) kb_nil))) ?_
            refine g_v (listed' := bs 8 7) 2 rfl (by kernel_rfl) rfl (fun _ => .plain rfl) rfl (fun _ hK => q_call rfl .f Tryd.call25 (.cons (.t (.n 123 1 rfl)) (.cons (.t .here) .nil)) rfl (f25_spec ta tb (small_cnt (by simpa using q27)) (small_cnt (by simpa using q31)))) (kb_cons (.tail _ (.tail _ (.tail _ (.tail _ (.head _))))) (kb_cons (.tail _ (.tail _ (.tail _ (.tail _ (.tail _ (.head _)))))) (kb_cons (.tail _ (.tail _ (.tail _ (.tail _ (.tail _ (.tail _ (.head _))))))) kb_nil))) ?_
            refine g_v (listed' := bs 8 15) 3 rfl (by kernel_rfl) rfl (fun _ => .plain rfl) rfl (fun _ hK => m_loadn (agT25) rfl (Ev.eq (.t (.n 3 114 rfl))) (hK _ (.tail _ (.tail _ (.head _)))) rfl) (kb_cons (.tail _ (.tail _ (.tail _ (.tail _ (.head _))))) (kb_cons (.tail _ (.tail _ (.tail _ (.tail _ (.tail _ (.head _)))))) (kb_cons (.tail _ (.tail _ (.tail _ (.tail _ (.tail _ (.tail _ (.head _))))))) kb_nil))) ?_
            refine g_v (listed' := bs 8 31) 4 rfl (by kernel_rfl) rfl (fun _ => .plain rfl) rfl (fun _ hK => m_loadn (agT25) rfl (Ev.eq (.t (.n 5 113 rfl))) (hK _ (.head _)) rfl) (kb_cons (.tail _ (.tail _ (.tail _ (.tail _ (.head _))))) (kb_cons (.tail _ (.tail _ (.tail _ (.tail _ (.tail _ (.head _)))))) (kb_cons (.tail _ (.tail _ (.tail _ (.tail _ (.tail _ (.tail _ (.head _))))))) kb_nil))) ?_
            refine g_v (listed' := bs 8 63) 5 rfl (by kernel_rfl) rfl (fun _ => .plain rfl) rfl (fun _ hK => q_call rfl .f Tryd.call25 (.cons (.t (.n 126 1 rfl)) (.cons (.t .here) .nil)) rfl (f25_spec ta tc (small_cnt (by simpa using q27)) (small_cnt (by simpa using q36)))) (kb_cons (.tail _ (.tail _ (.tail _ (.tail _ (.head _))))) (kb_cons (.tail _ (.tail _ (.tail _ (.tail _ (.tail _ (.head _)))))) (kb_cons (.tail _ (.tail _ (.tail _ (.tail _ (.tail _ (.tail _ (.head _))))))) kb_nil))) ?_
            refine g_v (listed' := bs 8 127) 6 rfl (by kernel_rfl) rfl (fun _ => .plain rfl) rfl (fun _ hK => opv_assign rfl (Ev.eq (.t (.n 125 3 rfl)))) (kb_cons (.tail _ (.tail _ (.tail _ (.tail _ (.head _))))) (kb_cons (.tail _ (.tail _ (.tail _ (.tail _ (.tail _ (.head _)))))) (kb_cons (.tail _ (.tail _ (.tail _ (.tail _ (.tail _ (.tail _ (.head _))))))) kb_nil))) ?_
            refine g_v (listed' := bs 8 255) 7 rfl (by kernel_rfl) rfl (fun _ => .plain rfl) rfl (fun _ hK => opv_assign rfl (Ev.eq (.t (.n 128 1 rfl)))) (kb_cons (.tail _ (.tail _ (.tail _ (.tail _ (.head _))))) (kb_cons (.tail _ (.tail _ (.tail _ (.tail _ (.tail _ (.head _)))))) (kb_cons (.tail _ (.tail _ (.tail _ (.tail _ (.tail _ (.tail _ (.head _))))))) kb_nil))) ?_
            refine g_end (by kernel_rfl) ?_
            refine awp_seq ?_
            refine awp_region ?_
            refine lv (.plain rfl) rfl rfl (opv_assign rfl (Ev.eq .i)) ?_
            refine awpL_nil ?_
            refine awp_seq ?_
            refine awp_seq ?_
            refine awp_region ?_
            refine lv (.plain rfl) rfl rfl (opv_assign rfl (Ev.eq .i)) ?_
            refine awpL_nil ?_
            refine awp_block ?_
            refine ploop (fun (a : Nat × Nat) => ⟨250, [(7, .ptr g7 0), (8, .d (dStrs (mergeR ta tb tc).bad)), (9, .d (.i .i64 (mergeR ta tb tc).e)), (11, .d (dStrs (mergeR ta tb tc).bad)), (19, .d (.sl ((chgP ta tb).map encChg))), (20, .d (.sl ((chgP ta tc).map encChg))), (21, .d (.i .i64 (a.2 : Int))), (22, .d (.i .i64 (a.1 : Int)))], [(g7, .var 25 [.d (.s (mergeR ta tb tc).t.label), .d (dRows (mergeR ta tb tc).t.rows), .d (.sl (encTries (mergeR ta tb tc).t.kids))])], []⟩) (fun a => a.1 ≤ (chgP ta tb).length ∧ a.2 = (((chgP ta tb).take a.1).filter (clash (chgP ta tc))).length) (fun a => (chgP ta tb).length - a.1) ((0, 0)) (weak_both (.ce (.n 7 81 rfl) (by first | rfl | (simp; done) | (simp; omega)) (.ce (.n 8 80 rfl) (by first | rfl | (simp; done) | (simp; omega)) (.ce (.n 9 79 rfl) (by first | rfl | (simp; done) | (simp; omega)) (.ce (.n 11 69 rfl) (by first | rfl | (simp; done) | (simp; omega)) (.ce (.n 19 3 rfl) (by first | rfl | (simp; done) | (simp; omega)) (.ce (.n 20 2 rfl) (by first | rfl | (simp; done) | (simp; omega)) (.ce (.n 21 1 rfl) (by first | rfl | (simp; done) | (simp; omega)) (.ce .here (by first | rfl | (simp; done) | (simp; omega)) .nil)))))))) (.cons _ (.cons _ (.cons _ (.cons_cons _ (.cons _ (.cons _ (.cons _ (List.Sublist.refl _))))))))) (⟨Nat.zero_le _, by rw [List.take_zero]; rfl⟩) ?_
            rintro ⟨i, n⟩ ⟨hi, hn⟩
            dsimp only at hi hn ⊢
            refine awp_seq ?_
            refine awp_seq ?_
            refine awp_region ?_
            refine lv (.plain rfl) rfl rfl (opv_move rfl (Ev.eq (.t (.n 22 7 rfl)))) ?_
            refine lv (.plain rfl) rfl rfl (opv_move rfl (Ev.eq (.t (.n 19 5 rfl)))) ?_
            refine lv (.plain rfl) rfl rfl (opv_len_sl Tryd.underlying57 rfl (Ev.eq (.t .here)) rfl) ?_
            refine lv (.plain rfl) rfl rfl (opv_lss rfl (Ev.eq (.t (.n 129 2 rfl))) (Ev.eq (.t .here)) rfl) ?_
            refine awpL_nil ?_
            refine psplit .here (fun h132 => ?_) (fun h132 => ?_)
            ·
             have q132 := h132
             try simp only [zs, List.length_map, bl_inj] at q132
             refine pcond_t (.t .here) h132 ?_
             refine awp_skip ?_
             refine awp_seq ?_
             refine awp_block ?_
             refine awp_seq ?_
             refine awp_region ?_
             refine lv (.plain rfl) rfl rfl (opv_assign rfl (Ev.eq .i)) ?_
             refine awpL_nil ?_
             refine awp_block ?_
             obtain ⟨x, hx⟩ := some_at (l := (chgP ta tb)) (i := i) (by omega)
             refine ploop (fun (b : Nat × Nat) => ⟨250, [(7, .ptr g7 0), (8, .d (dStrs (mergeR ta tb tc).bad)), (9, .d (.i .i64 (mergeR ta tb tc).e)), (11, .d (dStrs (mergeR ta tb tc).bad)), (19, .d (.sl ((chgP ta tb).map encChg))), (20, .d (.sl ((chgP ta tc).map encChg))), (21, .d (.i .i64 (b.2 : Int))), (22, .d (.i .i64 (i : Int))), (23, .d (.i .i64 (b.1 : Int)))], [(g7, .var 25 [.d (.s (mergeR ta tb tc).t.label), .d (dRows (mergeR ta tb tc).t.rows), .d (.sl (encTries (mergeR ta tb tc).t.kids))])], []⟩) (fun b => b.1 ≤ (chgP ta tc).length ∧ b.2 = n + (if clash ((chgP ta tc).take b.1) x = true then 1 else 0)) (fun b => (chgP ta tc).length - b.1) ((0, n)) (weak_both (.ce (.n 7 5 rfl) (by first | rfl | (simp; done) | (simp; omega)) (.ce (.n 8 6 rfl) (by first | rfl | (simp; done) | (simp; omega)) (.ce (.n 9 7 rfl) (by first | rfl | (simp; done) | (simp; omega)) (.ce (.n 11 8 rfl) (by first | rfl | (simp; done) | (simp; omega)) (.ce (.n 19 9 rfl) (by first | rfl | (simp; done) | (simp; omega)) (.ce (.n 20 10 rfl) (by first | rfl | (simp; done) | (simp; omega)) (.ce (.n 21 11 rfl) (by first | rfl | (simp; done) | (simp; omega)) (.ce (.n 22 12 rfl) (by first | rfl | (simp; done) | (simp; omega)) (.ce .here (by first | rfl | (simp; done) | (simp; omega)) .nil))))))))) (List.Sublist.refl _)) (⟨Nat.zero_le _, by rw [List.take_zero]; simp [clash]⟩) ?_
             rintro ⟨k, n2⟩ ⟨hk, hn2⟩
             dsimp only at hk hn2 ⊢
             refine awp_seq ?_
             refine awp_seq ?_
             refine awp_region ?_
             refine lv (.plain rfl) rfl rfl (opv_move rfl (Ev.eq (.t (.n 23 8 rfl)))) ?_
             refine lv (.plain rfl) rfl rfl (opv_move rfl (Ev.eq (.t (.n 20 6 rfl)))) ?_
             refine lv (.plain rfl) rfl rfl (opv_len_sl Tryd.underlying57 rfl (Ev.eq (.t .here)) rfl) ?_
             refine lv (.plain rfl) rfl rfl (opv_lss rfl (Ev.eq (.t (.n 135 2 rfl))) (Ev.eq (.t .here)) rfl) ?_
             refine awpL_nil ?_
             refine psplit .here (fun h138 => ?_) (fun h138 => ?_)
             ·
              have q138 := h138
              try simp only [zs, List.length_map, bl_inj] at q138
              refine pcond_t (.t .here) h138 ?_
              refine awp_skip ?_
              refine awp_seq ?_
              refine awp_block ?_
              refine awp_seq ?_
              refine g_draw mixed kb_nil (by kernel_rfl) (fuel := 25) rfl rfl ?_
              refine g_v (listed' := bs 25 1) 0 rfl (by kernel_rfl) rfl (fun _ => .plain rfl) rfl (fun _ hK => opv_move rfl (Ev.eq (.t (.n 19 8 rfl)))) kb_nil ?_
              refine g_v (listed' := bs 25 3) 1 rfl (by kernel_rfl) rfl (fun _ => .plain rfl) rfl (fun _ hK => opv_move rfl (Ev.eq (.t (.n 22 12 rfl)))) kb_nil ?_
              refine g_v (listed' := bs 25 7) 2 rfl (by kernel_rfl) rfl (fun _ => .plain rfl) rfl (fun _ hK => p_index (slT57) rfl (Ev.eq (.t (.n 141 1 rfl))) (Ev.eq (.t .here)) (by omega) (by exact map_at hx) rfl) kb_nil ?_
              refine g_v (listed' := bs 25 15) 3 rfl (by kernel_rfl) rfl (fun _ => .plain rfl) rfl (fun _ hK => p_fieldf (fldT60_0) rfl (Ev.eq (.t .here)) rfl) kb_nil ?_
              refine g_v (listed' := bs 25 31) 4 rfl (by kernel_rfl) rfl (fun _ => .plain rfl) rfl (fun _ hK => p_load1f (scT9) rfl (Ev.eq (.t .here))) kb_nil ?_
              refine g_v (listed' := bs 25 63) 5 rfl (by kernel_rfl) rfl (fun _ => .plain rfl) rfl (fun _ hK => opv_move rfl (Ev.eq (.t (.n 20 14 rfl)))) kb_nil ?_
              refine g_v (listed' := bs 25 127) 6 rfl (by kernel_rfl) rfl (fun _ => .plain rfl) rfl (fun _ hK => opv_move rfl (Ev.eq (.t (.n 23 18 rfl)))) kb_nil ?_
              obtain ⟨y, hy⟩ := some_at (l := (chgP ta tc)) (i := k) (by omega)
              refine g_v (listed' := bs 25 255) 7 rfl (by kernel_rfl) rfl (fun _ => .plain rfl) rfl (fun _ hK => p_index (slT57) rfl (Ev.eq (.t (.n 146 1 rfl))) (Ev.eq (.t .here)) (by omega) (by exact map_at hy) rfl) kb_nil ?_
              refine g_v (listed' := bs 25 511) 8 rfl (by kernel_rfl) rfl (fun _ => .plain rfl) rfl (fun _ hK => p_fieldf (fldT60_0) rfl (Ev.eq (.t .here)) rfl) kb_nil ?_
              refine g_v (listed' := bs 25 1023) 9 rfl (by kernel_rfl) rfl (fun _ => .plain rfl) rfl (fun _ hK => p_load1f (scT9) rfl (Ev.eq (.t .here))) kb_nil ?_
              refine g_v (listed' := bs 25 2047) 10 rfl (by kernel_rfl) rfl (fun _ => .plain rfl) rfl (fun _ hK => opv_eql_s rfl (Ev.eq (.t (.n 145 5 rfl))) (Ev.eq (.t .here)) rfl) kb_nil ?_
              refine g_v (listed' := bs 25 4095) 11 rfl (by kernel_rfl) rfl (fun _ => .plain rfl) rfl (fun _ hK => opv_move rfl (Ev.eq (.t .here))) kb_nil ?_
              refine gsplit (.n 151 1 rfl) (fun h151 => ?_) (fun h151 => ?_)
              ·
               have q151 := h151
               try simp only [zs, List.length_map, bl_inj] at q151
               refine g_v (listed' := bs 25 8191) 12 rfl (by kernel_rfl) rfl (fun _ => .on rfl rfl .here h151) rfl (fun _ hK => opv_move rfl (Ev.eq (.t (.n 19 20 rfl)))) kb_nil ?_
               refine g_v (listed' := bs 25 16383) 13 rfl (by kernel_rfl) rfl (fun _ => .on rfl rfl (.n 152 1 rfl) h151) rfl (fun _ hK => opv_move rfl (Ev.eq (.t (.n 22 24 rfl)))) kb_nil ?_
               refine g_v (listed' := bs 25 32767) 14 rfl (by kernel_rfl) rfl (fun _ => .on rfl rfl (.n 152 2 rfl) h151) rfl (fun _ hK => p_index (slT57) rfl (Ev.eq (.t (.n 153 1 rfl))) (Ev.eq (.t .here)) (by omega) (by exact map_at hx) rfl) kb_nil ?_
               refine g_v (listed' := bs 25 65535) 15 rfl (by kernel_rfl) rfl (fun _ => .on rfl rfl (.n 152 3 rfl) h151) rfl (fun _ hK => p_fieldf (fldT60_2) rfl (Ev.eq (.t .here)) rfl) kb_nil ?_
               refine g_v (listed' := bs 25 131071) 16 rfl (by kernel_rfl) rfl (fun _ => .on rfl rfl (.n 152 4 rfl) h151) rfl (fun _ hK => p_load1f (scT22) rfl (Ev.eq (.t .here))) kb_nil ?_
               refine g_v (listed' := bs 25 262143) 17 rfl (by kernel_rfl) rfl (fun _ => .on rfl rfl (.n 152 5 rfl) h151) rfl (fun _ hK => opv_move rfl (Ev.eq (.t (.n 20 26 rfl)))) kb_nil ?_
               refine g_v (listed' := bs 25 524287) 18 rfl (by kernel_rfl) rfl (fun _ => .on rfl rfl (.n 152 6 rfl) h151) rfl (fun _ hK => opv_move rfl (Ev.eq (.t (.n 23 30 rfl)))) kb_nil ?_
               refine g_v (listed' := bs 25 1048575) 19 rfl (by kernel_rfl) rfl (fun _ => .on rfl rfl (.n 152 7 rfl) h151) rfl (fun _ hK => p_index (slT57) rfl (Ev.eq (.t (.n 158 1 rfl))) (Ev.eq (.t .here)) (by omega) (by exact map_at hy) rfl) kb_nil ?_
               refine g_v (listed' := bs 25 2097151) 20 rfl (by kernel_rfl) rfl (fun _ => .on rfl rfl (.n 152 8 rfl) h151) rfl (fun _ hK => p_fieldf (fldT60_2) rfl (Ev.eq (.t .here)) rfl) kb_nil ?_
               refine g_v (listed' := bs 25 4194303) 21 rfl (by kernel_rfl) rfl (fun _ => .on rfl rfl (.n 152 9 rfl) h151) rfl (fun _ hK => p_load1f (scT22) rfl (Ev.eq (.t .here))) kb_nil ?_
               refine g_v (listed' := bs 25 8388607) 22 rfl (by kernel_rfl) rfl (fun _ => .on rfl rfl (.n 152 10 rfl) h151) rfl (fun _ hK => q_call rfl .f Tryd.call26 (.cons (.t (.n 157 5 rfl)) (.cons (.t .here) .nil)) rfl (f26_spec _ _)) kb_nil ?_
               refine g_v (listed' := bs 25 16777215) 23 rfl (by kernel_rfl) rfl (fun _ => .on rfl rfl (.n 152 11 rfl) h151) rfl (fun _ hK => opv_not rfl (Ev.eq (.t .here)) rfl) kb_nil ?_
               refine g_v (listed' := bs 25 33554431) 24 rfl (by kernel_rfl) rfl (fun _ => .plain rfl) rfl (fun _ hK => opv_pick_t rfl (Ev.eq (.t (.n 152 12 rfl))) h151 (Ev.eq (.t .here))) kb_nil ?_
               refine g_end (by kernel_rfl) ?_
               refine psplit (.n 163 2 rfl) (fun h163 => ?_) (fun h163 => ?_)
               ·
                have q163 := h163
                try simp only [zs, List.length_map, bl_inj] at q163
                refine pcond_f (.t .here) (congrArg not h163) ?_
                refine awp_skip ?_
                refine awp_region ?_
                refine lv (.plain rfl) rfl rfl (opv_move rfl (Ev.eq (.t (.n 23 37 rfl)))) ?_
                refine lv (.plain rfl) rfl rfl (opv_add rfl (Ev.eq (.t .here)) (Ev.eq .i) (wr64 (by omega) (by omega)) rfl) ?_
                refine lv (.plain rfl) rfl rfl (opv_assign rfl (Ev.eq (.t .here))) ?_
                refine awpL_nil ?_
                refine ⟨(k + 1, n2), by dsimp only; omega, ⟨by dsimp only; omega, by dsimp only; rw [clash_step hy, hn2]; simp_all⟩, weak_both (.ce (.n 7 32 rfl) (by first | rfl | (simp; done) | (simp; omega)) (.ce (.n 8 33 rfl) (by first | rfl | (simp; done) | (simp; omega)) (.ce (.n 9 34 rfl) (by first | rfl | (simp; done) | (simp; omega)) (.ce (.n 11 35 rfl) (by first | rfl | (simp; done) | (simp; omega)) (.ce (.n 19 36 rfl) (by first | rfl | (simp; done) | (simp; omega)) (.ce (.n 20 37 rfl) (by first | rfl | (simp; done) | (simp; omega)) (.ce (.n 21 38 rfl) (by first | rfl | (simp; done) | (simp; omega)) (.ce (.n 22 39 rfl) (by first | rfl | (simp; done) | (simp; omega)) (.ce .here (by first | rfl | (simp; done) | (simp; omega)) .nil))))))))) (List.Sublist.refl _)⟩
               ·
                have q163 := h163
                try simp only [zs, List.length_map, bl_inj] at q163
                refine pcond_t (.t .here) (congrArg not h163) ?_
                refine awp_seq ?_
                refine awp_seq ?_
                have hpx : x.path = y.path := by simpa using q151
                have hcl := clash_once hYs hy hpx
                have hnn : n2 = n := by rw [hn2, hcl]; simp
                have hcx : clash (chgP ta tc) x = true := by unfold clash; rw [List.any_eq_true]; exact ⟨y, List.mem_of_getElem? hy, by simp [hpx]; simpa using q163⟩
                have hbn : (mergeR ta tb tc).bad[n2]? = some x.path := by rw [hnn, hn, hbad, List.getElem?_map, filter_at hx hcx]; rfl
                have hbl := (List.getElem?_eq_some_iff.1 hbn).1
                have hbl2 : (mergeR ta tb tc).bad.length ≤ 1000000 := by rw [hbad, List.length_map]; exact Nat.le_trans (List.length_filter_le _ _) hXl
                refine g_draw mixed kb_nil (by kernel_rfl) (fuel := 28) rfl rfl ?_
                refine g_v (listed' := bs 28 1) 0 rfl (by kernel_rfl) rfl (fun _ => .plain rfl) rfl (fun _ hK => opv_move rfl (Ev.eq (.t (.n 21 35 rfl)))) kb_nil ?_
                refine g_v (listed' := bs 28 3) 1 rfl (by kernel_rfl) rfl (fun _ => .plain rfl) rfl (fun _ hK => opv_move rfl (Ev.eq (.t (.n 8 31 rfl)))) kb_nil ?_
                refine g_v (listed' := bs 28 7) 2 rfl (by kernel_rfl) rfl (fun _ => .plain rfl) rfl (fun _ hK => opv_len_sl Tryd.underlying28 rfl (Ev.eq (.t .here)) rfl) kb_nil ?_
                refine g_v (listed' := bs 28 15) 3 rfl (by kernel_rfl) rfl (fun _ => .plain rfl) rfl (fun _ hK => opv_geq rfl (Ev.eq (.t (.n 166 2 rfl))) (Ev.eq (.t .here)) rfl) kb_nil ?_
                refine g_v (listed' := bs 28 31) 4 rfl (by kernel_rfl) rfl (fun _ => .plain rfl) rfl (fun _ hK => opv_move rfl (Ev.eq (.t .here))) kb_nil ?_
                refine gsplit (.n 169 1 rfl) (fun h169 => ?_) (fun h169 => ?_)
                ·
                 have q169 := h169
                 try simp only [zs, List.length_map, bl_inj] at q169
                 refine g_o (listed' := bs 28 63) 5 rfl (by kernel_rfl) rfl (fun _ => .off rfl rfl .here h169) rfl kb_nil ?_
                 refine g_o (listed' := bs 28 127) 6 rfl (by kernel_rfl) rfl (fun _ => .off rfl rfl (.n 170 1 rfl) h169) rfl kb_nil ?_
                 refine g_o (listed' := bs 28 255) 7 rfl (by kernel_rfl) rfl (fun _ => .off rfl rfl (.n 170 2 rfl) h169) rfl kb_nil ?_
                 refine g_o (listed' := bs 28 511) 8 rfl (by kernel_rfl) rfl (fun _ => .off rfl rfl (.n 170 3 rfl) h169) rfl kb_nil ?_
                 refine g_o (listed' := bs 28 1023) 9 rfl (by kernel_rfl) rfl (fun _ => .off rfl rfl (.n 170 4 rfl) h169) rfl kb_nil ?_
                 refine g_o (listed' := bs 28 2047) 10 rfl (by kernel_rfl) rfl (fun _ => .off rfl rfl (.n 170 5 rfl) h169) rfl kb_nil ?_
                 refine g_o (listed' := bs 28 4095) 11 rfl (by kernel_rfl) rfl (fun _ => .off rfl rfl (.n 170 6 rfl) h169) rfl kb_nil ?_
                 refine g_o (listed' := bs 28 8191) 12 rfl (by kernel_rfl) rfl (fun _ => .off rfl rfl (.n 170 7 rfl) h169) rfl kb_nil ?_
                 refine g_o (listed' := bs 28 16383) 13 rfl (by kernel_rfl) rfl (fun _ => .off rfl rfl (.n 170 8 rfl) h169) rfl kb_nil ?_
                 refine g_o (listed' := bs 28 32767) 14 rfl (by kernel_rfl) rfl (fun _ => .off rfl rfl (.n 170 9 rfl) h169) rfl kb_nil ?_
                 refine g_v (listed' := bs 28 65535) 15 rfl (by kernel_rfl) rfl (fun _ => .plain rfl) rfl (fun _ hK => opv_pick_t rfl (Ev.eq (.t (.n 170 10 rfl))) h169 (Ev.eq .b)) kb_nil ?_
                 refine g_v (listed' := bs 28 131071) 16 rfl (by kernel_rfl) rfl (fun _ => .plain rfl) rfl (fun _ hK => opv_move rfl (Ev.eq (.t .here))) kb_nil ?_
                 refine g_o (listed' := bs 28 262143) 17 rfl (by kernel_rfl) rfl (fun _ => .off rfl rfl .here rfl) rfl kb_nil ?_
                 refine g_o (listed' := bs 28 524287) 18 rfl (by kernel_rfl) rfl (fun _ => .off rfl rfl (.n 182 1 rfl) rfl) rfl kb_nil ?_
                 refine g_o (listed' := bs 28 1048575) 19 rfl (by kernel_rfl) rfl (fun _ => .off rfl rfl (.n 182 2 rfl) rfl) rfl kb_nil ?_
                 refine g_o (listed' := bs 28 2097151) 20 rfl (by kernel_rfl) rfl (fun _ => .off rfl rfl (.n 182 3 rfl) rfl) rfl kb_nil ?_
                 refine g_o (listed' := bs 28 4194303) 21 rfl (by kernel_rfl) rfl (fun _ => .off rfl rfl (.n 182 4 rfl) rfl) rfl kb_nil ?_
                 refine g_o (listed' := bs 28 8388607) 22 rfl (by kernel_rfl) rfl (fun _ => .off rfl rfl (.n 182 5 rfl) rfl) rfl kb_nil ?_
                 refine g_o (listed' := bs 28 16777215) 23 rfl (by kernel_rfl) rfl (fun _ => .off rfl rfl (.n 182 6 rfl) rfl) rfl kb_nil ?_
                 refine g_o (listed' := bs 28 33554431) 24 rfl (by kernel_rfl) rfl (fun _ => .off rfl rfl (.n 182 7 rfl) rfl) rfl kb_nil ?_
                 refine g_o (listed' := bs 28 67108863) 25 rfl (by kernel_rfl) rfl (fun _ => .off rfl rfl (.n 182 8 rfl) rfl) rfl kb_nil ?_
                 refine g_o (listed' := bs 28 134217727) 26 rfl (by kernel_rfl) rfl (fun _ => .off rfl rfl (.n 182 9 rfl) rfl) rfl kb_nil ?_
                 refine g_v (listed' := bs 28 268435455) 27 rfl (by kernel_rfl) rfl (fun _ => .plain rfl) rfl (fun _ hK => opv_pick_t rfl (Ev.eq (.t (.n 182 10 rfl))) rfl (Ev.eq .b)) kb_nil ?_
                 refine g_end (by kernel_rfl) ?_
                 refine pcond_t (.t .here) rfl ?_
                 refine awp_seq ?_
                 exfalso
                 first | omega | simp_all
                ·
                 have q169 := h169
                 try simp only [zs, List.length_map, bl_inj] at q169
                 refine g_v (listed' := bs 28 63) 5 rfl (by kernel_rfl) rfl (fun _ => .on rfl rfl .here h169) rfl (fun _ hK => opv_move rfl (Ev.eq (.t (.n 8 35 rfl)))) kb_nil ?_
                 refine g_v (listed' := bs 28 127) 6 rfl (by kernel_rfl) rfl (fun _ => .on rfl rfl (.n 170 1 rfl) h169) rfl (fun _ hK => opv_move rfl (Ev.eq (.t (.n 21 41 rfl)))) kb_nil ?_
                 refine g_v (listed' := bs 28 255) 7 rfl (by kernel_rfl) rfl (fun _ => .on rfl rfl (.n 170 2 rfl) h169) rfl (fun _ hK => p_index (slT28) rfl (Ev.eq (.t (.n 171 1 rfl))) (Ev.eq (.t .here)) (by omega) (by exact map_at hbn) rfl) kb_nil ?_
                 refine g_v (listed' := bs 28 511) 8 rfl (by kernel_rfl) rfl (fun _ => .on rfl rfl (.n 170 3 rfl) h169) rfl (fun _ hK => p_load1f (scT9) rfl (Ev.eq (.t .here))) kb_nil ?_
                 refine g_v (listed' := bs 28 1023) 9 rfl (by kernel_rfl) rfl (fun _ => .on rfl rfl (.n 170 4 rfl) h169) rfl (fun _ hK => opv_move rfl (Ev.eq (.t (.n 19 42 rfl)))) kb_nil ?_
                 refine g_v (listed' := bs 28 2047) 10 rfl (by kernel_rfl) rfl (fun _ => .on rfl rfl (.n 170 5 rfl) h169) rfl (fun _ hK => opv_move rfl (Ev.eq (.t (.n 22 46 rfl)))) kb_nil ?_
                 refine g_v (listed' := bs 28 4095) 11 rfl (by kernel_rfl) rfl (fun _ => .on rfl rfl (.n 170 6 rfl) h169) rfl (fun _ hK => p_index (slT57) rfl (Ev.eq (.t (.n 175 1 rfl))) (Ev.eq (.t .here)) (by omega) (by exact map_at hx) rfl) kb_nil ?_
                 refine g_v (listed' := bs 28 8191) 12 rfl (by kernel_rfl) rfl (fun _ => .on rfl rfl (.n 170 7 rfl) h169) rfl (fun _ hK => p_fieldf (fldT60_0) rfl (Ev.eq (.t .here)) rfl) kb_nil ?_
                 refine g_v (listed' := bs 28 16383) 13 rfl (by kernel_rfl) rfl (fun _ => .on rfl rfl (.n 170 8 rfl) h169) rfl (fun _ hK => p_load1f (scT9) rfl (Ev.eq (.t .here))) kb_nil ?_
                 refine g_v (listed' := bs 28 32767) 14 rfl (by kernel_rfl) rfl (fun _ => .on rfl rfl (.n 170 9 rfl) h169) rfl (fun _ hK => opv_neq_s rfl (Ev.eq (.t (.n 174 5 rfl))) (Ev.eq (.t .here)) rfl) kb_nil ?_
                 refine g_v (listed' := bs 28 65535) 15 rfl (by kernel_rfl) rfl (fun _ => .plain rfl) rfl (fun _ hK => opv_pick_f rfl (Ev.eq (.t (.n 170 10 rfl))) h169 (Ev.eq (.t .here))) kb_nil ?_
                 refine g_v (listed' := bs 28 131071) 16 rfl (by kernel_rfl) rfl (fun _ => .plain rfl) rfl (fun _ hK => opv_move rfl (Ev.eq (.t .here))) kb_nil ?_
                 refine gsplit (.n 180 2 rfl) (fun h180 => ?_) (fun h180 => ?_)
                 ·
                  have q180 := h180
                  try simp only [zs, List.length_map, bl_inj] at q180
                  refine g_o (listed' := bs 28 262143) 17 rfl (by kernel_rfl) rfl (fun _ => .off rfl rfl .here h180) rfl kb_nil ?_
                  refine g_o (listed' := bs 28 524287) 18 rfl (by kernel_rfl) rfl (fun _ => .off rfl rfl (.n 182 1 rfl) h180) rfl kb_nil ?_
                  refine g_o (listed' := bs 28 1048575) 19 rfl (by kernel_rfl) rfl (fun _ => .off rfl rfl (.n 182 2 rfl) h180) rfl kb_nil ?_
                  refine g_o (listed' := bs 28 2097151) 20 rfl (by kernel_rfl) rfl (fun _ => .off rfl rfl (.n 182 3 rfl) h180) rfl kb_nil ?_
                  refine g_o (listed' := bs 28 4194303) 21 rfl (by kernel_rfl) rfl (fun _ => .off rfl rfl (.n 182 4 rfl) h180) rfl kb_nil ?_
                  refine g_o (listed' := bs 28 8388607) 22 rfl (by kernel_rfl) rfl (fun _ => .off rfl rfl (.n 182 5 rfl) h180) rfl kb_nil ?_
                  refine g_o (listed' := bs 28 16777215) 23 rfl (by kernel_rfl) rfl (fun _ => .off rfl rfl (.n 182 6 rfl) h180) rfl kb_nil ?_
                  refine g_o (listed' := bs 28 33554431) 24 rfl (by kernel_rfl) rfl (fun _ => .off rfl rfl (.n 182 7 rfl) h180) rfl kb_nil ?_
                  refine g_o (listed' := bs 28 67108863) 25 rfl (by kernel_rfl) rfl (fun _ => .off rfl rfl (.n 182 8 rfl) h180) rfl kb_nil ?_
                  refine g_o (listed' := bs 28 134217727) 26 rfl (by kernel_rfl) rfl (fun _ => .off rfl rfl (.n 182 9 rfl) h180) rfl kb_nil ?_
                  refine g_v (listed' := bs 28 268435455) 27 rfl (by kernel_rfl) rfl (fun _ => .plain rfl) rfl (fun _ hK => opv_pick_t rfl (Ev.eq (.t (.n 182 10 rfl))) h180 (Ev.eq .b)) kb_nil ?_
                  refine g_end (by kernel_rfl) ?_
                  refine pcond_t (.t .here) rfl ?_
                  refine awp_seq ?_
                  exfalso
                  first | omega | simp_all
                 ·
                  have q180 := h180
                  try simp only [zs, List.length_map, bl_inj] at q180
                  refine g_v (listed' := bs 28 262143) 17 rfl (by kernel_rfl) rfl (fun _ => .on rfl rfl .here h180) rfl (fun _ hK => opv_move rfl (Ev.eq (.t (.n 11 49 rfl)))) kb_nil ?_
                  refine g_v (listed' := bs 28 524287) 18 rfl (by kernel_rfl) rfl (fun _ => .on rfl rfl (.n 182 1 rfl) h180) rfl (fun _ hK => opv_move rfl (Ev.eq (.t (.n 21 53 rfl)))) kb_nil ?_
                  refine g_v (listed' := bs 28 1048575) 19 rfl (by kernel_rfl) rfl (fun _ => .on rfl rfl (.n 182 2 rfl) h180) rfl (fun _ hK => p_index (slT28) rfl (Ev.eq (.t (.n 183 1 rfl))) (Ev.eq (.t .here)) (by omega) (by exact map_at hbn) rfl) kb_nil ?_
                  refine g_v (listed' := bs 28 2097151) 20 rfl (by kernel_rfl) rfl (fun _ => .on rfl rfl (.n 182 3 rfl) h180) rfl (fun _ hK => p_load1f (scT9) rfl (Ev.eq (.t .here))) kb_nil ?_
                  refine g_v (listed' := bs 28 4194303) 21 rfl (by kernel_rfl) rfl (fun _ => .on rfl rfl (.n 182 4 rfl) h180) rfl (fun _ hK => opv_move rfl (Ev.eq (.t (.n 19 54 rfl)))) kb_nil ?_
                  refine g_v (listed' := bs 28 8388607) 22 rfl (by kernel_rfl) rfl (fun _ => .on rfl rfl (.n 182 5 rfl) h180) rfl (fun _ hK => opv_move rfl (Ev.eq (.t (.n 22 58 rfl)))) kb_nil ?_
                  refine g_v (listed' := bs 28 16777215) 23 rfl (by kernel_rfl) rfl (fun _ => .on rfl rfl (.n 182 6 rfl) h180) rfl (fun _ hK => p_index (slT57) rfl (Ev.eq (.t (.n 187 1 rfl))) (Ev.eq (.t .here)) (by omega) (by exact map_at hx) rfl) kb_nil ?_
                  refine g_v (listed' := bs 28 33554431) 24 rfl (by kernel_rfl) rfl (fun _ => .on rfl rfl (.n 182 7 rfl) h180) rfl (fun _ hK => p_fieldf (fldT60_0) rfl (Ev.eq (.t .here)) rfl) kb_nil ?_
                  refine g_v (listed' := bs 28 67108863) 25 rfl (by kernel_rfl) rfl (fun _ => .on rfl rfl (.n 182 8 rfl) h180) rfl (fun _ hK => p_load1f (scT9) rfl (Ev.eq (.t .here))) kb_nil ?_
                  refine g_v (listed' := bs 28 134217727) 26 rfl (by kernel_rfl) rfl (fun _ => .on rfl rfl (.n 182 9 rfl) h180) rfl (fun _ hK => opv_neq_s rfl (Ev.eq (.t (.n 186 5 rfl))) (Ev.eq (.t .here)) rfl) kb_nil ?_
                  refine g_v (listed' := bs 28 268435455) 27 rfl (by kernel_rfl) rfl (fun _ => .plain rfl) rfl (fun _ hK => opv_pick_f rfl (Ev.eq (.t (.n 182 10 rfl))) h180 (Ev.eq (.t .here))) kb_nil ?_
                  refine g_end (by kernel_rfl) ?_
                  refine psplit (.n 192 1 rfl) (fun h192 => ?_) (fun h192 => ?_)
                  ·
                   have q192 := h192
                   try simp only [zs, List.length_map, bl_inj] at q192
                   refine pcond_t (.t .here) h192 ?_
                   refine awp_seq ?_
                   exfalso
                   first | omega | simp_all
                  ·
                   have q192 := h192
                   try simp only [zs, List.length_map, bl_inj] at q192
                   refine pcond_f (.t .here) h192 ?_
                   refine awp_skip ?_
                   refine awp_region ?_
                   refine lv (.plain rfl) rfl rfl (opv_move rfl (Ev.eq (.t (.n 21 63 rfl)))) ?_
                   refine lv (.plain rfl) rfl rfl (opv_add rfl (Ev.eq (.t .here)) (Ev.eq .i) (wr64 (by omega) (by omega)) rfl) ?_
                   refine lv (.plain rfl) rfl rfl (opv_assign rfl (Ev.eq (.t .here))) ?_
                   refine awpL_nil ?_
                   refine awp_region ?_
                   refine lv (.plain rfl) rfl rfl (opv_move rfl (Ev.eq (.t (.n 23 68 rfl)))) ?_
                   refine lv (.plain rfl) rfl rfl (opv_add rfl (Ev.eq (.t .here)) (Ev.eq .i) (wr64 (by omega) (by omega)) rfl) ?_
                   refine lv (.plain rfl) rfl rfl (opv_assign rfl (Ev.eq (.t .here))) ?_
                   refine awpL_nil ?_
                   refine ⟨(k + 1, n2 + 1), by dsimp only; omega, ⟨by dsimp only; omega, by dsimp only; rw [clash_step hy, hcl, hpx]; simp [hnn, q163]⟩, weak_both (.ce (.n 7 63 rfl) (by first | rfl | (simp; done) | (simp; omega)) (.ce (.n 8 64 rfl) (by first | rfl | (simp; done) | (simp; omega)) (.ce (.n 9 65 rfl) (by first | rfl | (simp; done) | (simp; omega)) (.ce (.n 11 66 rfl) (by first | rfl | (simp; done) | (simp; omega)) (.ce (.n 19 67 rfl) (by first | rfl | (simp; done) | (simp; omega)) (.ce (.n 20 68 rfl) (by first | rfl | (simp; done) | (simp; omega)) (.ce (.n 21 3 rfl) (by first | rfl | (simp; done) | (simp; omega)) (.ce (.n 22 70 rfl) (by first | rfl | (simp; done) | (simp; omega)) (.ce .here (by first | rfl | (simp; done) | (simp; omega)) .nil))))))))) (List.Sublist.refl _)⟩
              ·
               have q151 := h151
               try simp only [zs, List.length_map, bl_inj] at q151
               refine g_o (listed' := bs 25 8191) 12 rfl (by kernel_rfl) rfl (fun _ => .off rfl rfl .here h151) rfl kb_nil ?_
               refine g_o (listed' := bs 25 16383) 13 rfl (by kernel_rfl) rfl (fun _ => .off rfl rfl (.n 152 1 rfl) h151) rfl kb_nil ?_
               refine g_o (listed' := bs 25 32767) 14 rfl (by kernel_rfl) rfl (fun _ => .off rfl rfl (.n 152 2 rfl) h151) rfl kb_nil ?_
               refine g_o (listed' := bs 25 65535) 15 rfl (by kernel_rfl) rfl (fun _ => .off rfl rfl (.n 152 3 rfl) h151) rfl kb_nil ?_
               refine g_o (listed' := bs 25 131071) 16 rfl (by kernel_rfl) rfl (fun _ => .off rfl rfl (.n 152 4 rfl) h151) rfl kb_nil ?_
               refine g_o (listed' := bs 25 262143) 17 rfl (by kernel_rfl) rfl (fun _ => .off rfl rfl (.n 152 5 rfl) h151) rfl kb_nil ?_
               refine g_o (listed' := bs 25 524287) 18 rfl (by kernel_rfl) rfl (fun _ => .off rfl rfl (.n 152 6 rfl) h151) rfl kb_nil ?_
               refine g_o (listed' := bs 25 1048575) 19 rfl (by kernel_rfl) rfl (fun _ => .off rfl rfl (.n 152 7 rfl) h151) rfl kb_nil ?_
               refine g_o (listed' := bs 25 2097151) 20 rfl (by kernel_rfl) rfl (fun _ => .off rfl rfl (.n 152 8 rfl) h151) rfl kb_nil ?_
               refine g_o (listed' := bs 25 4194303) 21 rfl (by kernel_rfl) rfl (fun _ => .off rfl rfl (.n 152 9 rfl) h151) rfl kb_nil ?_
               refine g_o (listed' := bs 25 8388607) 22 rfl (by kernel_rfl) rfl (fun _ => .off rfl rfl (.n 152 10 rfl) h151) rfl kb_nil ?_
               refine g_o (listed' := bs 25 16777215) 23 rfl (by kernel_rfl) rfl (fun _ => .off rfl rfl (.n 152 11 rfl) h151) rfl kb_nil ?_
               refine g_v (listed' := bs 25 33554431) 24 rfl (by kernel_rfl) rfl (fun _ => .plain rfl) rfl (fun _ hK => opv_pick_f rfl (Ev.eq (.t (.n 152 12 rfl))) h151 (Ev.eq .b)) kb_nil ?_
               refine g_end (by kernel_rfl) ?_
               refine pcond_f (.t .here) rfl ?_
               refine awp_skip ?_
               refine awp_region ?_
               refine lv (.plain rfl) rfl rfl (opv_move rfl (Ev.eq (.t (.n 23 37 rfl)))) ?_
               refine lv (.plain rfl) rfl rfl (opv_add rfl (Ev.eq (.t .here)) (Ev.eq .i) (wr64 (by omega) (by omega)) rfl) ?_
               refine lv (.plain rfl) rfl rfl (opv_assign rfl (Ev.eq (.t .here))) ?_
               refine awpL_nil ?_
               refine ⟨(k + 1, n2), by dsimp only; omega, ⟨by dsimp only; omega, by dsimp only; rw [clash_step hy, hn2]; simp_all⟩, weak_both (.ce (.n 7 32 rfl) (by first | rfl | (simp; done) | (simp; omega)) (.ce (.n 8 33 rfl) (by first | rfl | (simp; done) | (simp; omega)) (.ce (.n 9 34 rfl) (by first | rfl | (simp; done) | (simp; omega)) (.ce (.n 11 35 rfl) (by first | rfl | (simp; done) | (simp; omega)) (.ce (.n 19 36 rfl) (by first | rfl | (simp; done) | (simp; omega)) (.ce (.n 20 37 rfl) (by first | rfl | (simp; done) | (simp; omega)) (.ce (.n 21 38 rfl) (by first | rfl | (simp; done) | (simp; omega)) (.ce (.n 22 39 rfl) (by first | rfl | (simp; done) | (simp; omega)) (.ce .here (by first | rfl | (simp; done) | (simp; omega)) .nil))))))))) (List.Sublist.refl _)⟩
             ·
              have q138 := h138
              try simp only [zs, List.length_map, bl_inj] at q138
              refine pcond_f (.t .here) h138 ?_
              refine awp_exit ?_
              refine awp_region ?_
              refine lv (.plain rfl) rfl rfl (opv_move rfl (Ev.eq (.t (.n 22 11 rfl)))) ?_
              refine lv (.plain rfl) rfl rfl (opv_add rfl (Ev.eq (.t .here)) (Ev.eq .i) (wr64 (by omega) (by omega)) rfl) ?_
              refine lv (.plain rfl) rfl rfl (opv_assign rfl (Ev.eq (.t .here))) ?_
              refine awpL_nil ?_
              refine ⟨(i + 1, n2), by dsimp only; omega, ⟨by dsimp only; omega, by dsimp only; rw [filter_step hx, ← hn, hn2, show (chgP ta tc).take k = (chgP ta tc) from List.take_of_length_le (by omega)]⟩, weak_both (.ce (.n 7 7 rfl) (by first | rfl | (simp; done) | (simp; omega)) (.ce (.n 8 8 rfl) (by first | rfl | (simp; done) | (simp; omega)) (.ce (.n 9 9 rfl) (by first | rfl | (simp; done) | (simp; omega)) (.ce (.n 11 10 rfl) (by first | rfl | (simp; done) | (simp; omega)) (.ce (.n 19 11 rfl) (by first | rfl | (simp; done) | (simp; omega)) (.ce (.n 20 12 rfl) (by first | rfl | (simp; done) | (simp; omega)) (.ce (.n 21 13 rfl) (by first | rfl | (simp; done) | (simp; omega)) (.ce .here (by first | rfl | (simp; done) | (simp; omega)) .nil)))))))) (List.Sublist.refl _)⟩
            ·
             have q132 := h132
             try simp only [zs, List.length_map, bl_inj] at q132
             refine pcond_f (.t .here) h132 ?_
             refine awp_exit ?_
             refine awp_seq ?_
             refine awp_seq ?_
             obtain rfl : i = (chgP ta tb).length := by omega
             rw [List.take_length] at hn
             have hfin : n = (mergeR ta tb tc).bad.length := by rw [hn, hbad, List.length_map]
             refine awp_region ?_
             refine lv (.plain rfl) rfl rfl (opv_move rfl (Ev.eq (.t (.n 21 10 rfl)))) ?_
             refine lv (.plain rfl) rfl rfl (opv_move rfl (Ev.eq (.t (.n 8 6 rfl)))) ?_
             refine lv (.plain rfl) rfl rfl (opv_len_sl Tryd.underlying28 rfl (Ev.eq (.t .here)) rfl) ?_
             refine lv (.plain rfl) rfl rfl (opv_neq_i rfl (Ev.eq (.t (.n 196 2 rfl))) (Ev.eq (.t .here)) rfl) ?_
             refine lv (.plain rfl) rfl rfl (opv_move rfl (Ev.eq (.t .here))) ?_
             refine lsplit (.n 199 1 rfl) (fun h199 => ?_) (fun h199 => ?_)
             ·
              have q199 := h199
              try simp only [zs, List.length_map, bl_inj] at q199
              refine lo (.off rfl rfl .here h199) rfl rfl ?_
              refine lo (.off rfl rfl (.n 200 1 rfl) h199) rfl rfl ?_
              refine lo (.off rfl rfl (.n 200 2 rfl) h199) rfl rfl ?_
              refine lo (.off rfl rfl (.n 200 3 rfl) h199) rfl rfl ?_
              refine lo (.off rfl rfl (.n 200 4 rfl) h199) rfl rfl ?_
              refine lv (.plain rfl) rfl rfl (opv_pick_t rfl (Ev.eq (.t (.n 200 5 rfl))) h199 (Ev.eq .b)) ?_
              refine awpL_nil ?_
              refine pcond_t (.t .here) rfl ?_
              refine awp_seq ?_
              exfalso
              by_cases hz : (mergeR ta tb tc).bad = []
              ·
               simp_all
              ·
               simp_all
             ·
              have q199 := h199
              try simp only [zs, List.length_map, bl_inj] at q199
              refine lv (.on rfl rfl .here h199) rfl rfl (opv_move rfl (Ev.eq (.t (.n 9 11 rfl)))) ?_
              refine lv (.on rfl rfl (.n 200 1 rfl) h199) rfl rfl (opv_eql_i rfl (Ev.eq (.t .here)) (Ev.eq .i) rfl) ?_
              refine lv (.on rfl rfl (.n 200 2 rfl) h199) rfl rfl (opv_move rfl (Ev.eq (.t (.n 21 17 rfl)))) ?_
              refine lv (.on rfl rfl (.n 200 3 rfl) h199) rfl rfl (opv_eql_i rfl (Ev.eq (.t .here)) (Ev.eq .i) rfl) ?_
              refine lv (.on rfl rfl (.n 200 4 rfl) h199) rfl rfl (opv_neq_b Tryd.underlying4 rfl (Ev.eq (.t (.n 202 2 rfl))) (Ev.eq (.t .here)) rfl) ?_
              refine lv (.plain rfl) rfl rfl (opv_pick_f rfl (Ev.eq (.t (.n 200 5 rfl))) h199 (Ev.eq (.t .here))) ?_
              refine awpL_nil ?_
              refine psplit (.n 205 1 rfl) (fun h205 => ?_) (fun h205 => ?_)
              ·
               have q205 := h205
               try simp only [zs, List.length_map, bl_inj] at q205
               refine pcond_t (.t .here) h205 ?_
               refine awp_seq ?_
               exfalso
               by_cases hz : (mergeR ta tb tc).bad = []
               ·
                simp_all
               ·
                simp_all
              ·
               have q205 := h205
               try simp only [zs, List.length_map, bl_inj] at q205
               refine pcond_f (.t .here) h205 ?_
               refine awp_skip ?_
               refine awp_seq ?_
               refine awp_seq ?_
               refine awp_region ?_
               refine lv (.plain rfl) rfl rfl (opv_move rfl (Ev.eq (.t (.n 9 17 rfl)))) ?_
               refine lv (.plain rfl) rfl rfl (opv_eql_i rfl (Ev.eq (.t .here)) (Ev.eq .i) rfl) ?_
               refine awpL_nil ?_
               refine psplit .here (fun h208 => ?_) (fun h208 => ?_)
               ·
                have q208 := h208
                try simp only [zs, List.length_map, bl_inj] at q208
                refine pcond_t (.t .here) h208 ?_
                refine awp_seq ?_
                refine awp_seq ?_
                refine awp_region ?_
                refine lv (.plain rfl) rfl rfl (opv_assign rfl (Ev.eq .i)) ?_
                refine awpL_nil ?_
                refine awp_block ?_
                refine ploop (fun (j : Nat) => ⟨250, [(7, .ptr g7 0), (19, .d (.sl ((chgP ta tb).map encChg))), (20, .d (.sl ((chgP ta tc).map encChg))), (24, .d (.i .i64 (j : Int)))], [(g7, .var 25 [.d (.s (mergeR ta tb tc).t.label), .d (dRows (mergeR ta tb tc).t.rows), .d (.sl (encTries (mergeR ta tb tc).t.kids))])], []⟩) (fun j => j ≤ (chgP ta tb).length) (fun j => (chgP ta tb).length - j) (0) (weak_both (.ce (.n 7 18 rfl) (by first | rfl | (simp; done) | (simp; omega)) (.ce (.n 19 22 rfl) (by first | rfl | (simp; done) | (simp; omega)) (.ce (.n 20 23 rfl) (by first | rfl | (simp; done) | (simp; omega)) (.ce .here (by first | rfl | (simp; done) | (simp; omega)) .nil)))) (List.Sublist.refl _)) (Nat.zero_le _) ?_
                rintro j hj
                refine awp_seq ?_
                refine awp_seq ?_
                refine awp_region ?_
                refine lv (.plain rfl) rfl rfl (opv_move rfl (Ev.eq (.t (.n 24 3 rfl)))) ?_
                refine lv (.plain rfl) rfl rfl (opv_move rfl (Ev.eq (.t (.n 19 2 rfl)))) ?_
                refine lv (.plain rfl) rfl rfl (opv_len_sl Tryd.underlying57 rfl (Ev.eq (.t .here)) rfl) ?_
                refine lv (.plain rfl) rfl rfl (opv_lss rfl (Ev.eq (.t (.n 209 2 rfl))) (Ev.eq (.t .here)) rfl) ?_
                refine awpL_nil ?_
                refine psplit .here (fun h212 => ?_) (fun h212 => ?_)
                ·
                 have q212 := h212
                 try simp only [zs, List.length_map, bl_inj] at q212
                 refine pcond_t (.t .here) h212 ?_
                 refine awp_skip ?_
                 refine awp_seq ?_
                 refine awp_block ?_
                 refine awp_seq ?_
                 refine g_draw mixed (kb_cons (.head _) kb_nil) (by kernel_rfl) (fuel := 14) rfl rfl ?_
                 refine g_v (listed' := bs 14 1) 0 rfl (by kernel_rfl) rfl (fun _ => .plain rfl) rfl (fun _ hK => m_loadn (agT25) rfl (Ev.eq (.t (.n 7 4 rfl))) (hK _ (.head _)) rfl) (kb_cons (.head _) kb_nil) ?_
                 refine g_v (listed' := bs 14 3) 1 rfl (by kernel_rfl) rfl (fun _ => .plain rfl) rfl (fun _ hK => opv_move rfl (Ev.eq (.t (.n 19 6 rfl)))) (kb_cons (.head _) kb_nil) ?_
                 refine g_v (listed' := bs 14 7) 2 rfl (by kernel_rfl) rfl (fun _ => .plain rfl) rfl (fun _ hK => opv_move rfl (Ev.eq (.t (.n 24 9 rfl)))) (kb_cons (.head _) kb_nil) ?_
                 obtain ⟨z, hz⟩ := some_at (l := (chgP ta tb)) (i := j) (by omega)
                 refine g_v (listed' := bs 14 15) 3 rfl (by kernel_rfl) rfl (fun _ => .plain rfl) rfl (fun _ hK => p_index (slT57) rfl (Ev.eq (.t (.n 216 1 rfl))) (Ev.eq (.t .here)) (by omega) (by exact map_at hz) rfl) (kb_cons (.head _) kb_nil) ?_
                 refine g_v (listed' := bs 14 31) 4 rfl (by kernel_rfl) rfl (fun _ => .plain rfl) rfl (fun _ hK => p_fieldf (fldT60_0) rfl (Ev.eq (.t .here)) rfl) (kb_cons (.head _) kb_nil) ?_
                 refine g_v (listed' := bs 14 63) 5 rfl (by kernel_rfl) rfl (fun _ => .plain rfl) rfl (fun _ hK => p_load1f (scT9) rfl (Ev.eq (.t .here))) (kb_cons (.head _) kb_nil) ?_
                 refine g_v (listed' := bs 14 127) 6 rfl (by kernel_rfl) rfl (fun _ => .plain rfl) rfl (fun _ hK => q_call rfl .f Tryd.call23 (.cons (.t (.n 215 5 rfl)) (.cons (.t .here) .nil)) rfl (f23_spec (mergeR ta tb tc).t z.path)) (kb_cons (.head _) kb_nil) ?_
                 refine g_v (listed' := bs 14 255) 7 rfl (by kernel_rfl) rfl (fun _ => .plain rfl) rfl (fun _ hK => opv_move rfl (Ev.eq (.t (.n 19 12 rfl)))) (kb_cons (.head _) kb_nil) ?_
                 refine g_v (listed' := bs 14 511) 8 rfl (by kernel_rfl) rfl (fun _ => .plain rfl) rfl (fun _ hK => opv_move rfl (Ev.eq (.t (.n 24 15 rfl)))) (kb_cons (.head _) kb_nil) ?_
                 refine g_v (listed' := bs 14 1023) 9 rfl (by kernel_rfl) rfl (fun _ => .plain rfl) rfl (fun _ hK => p_index (slT57) rfl (Ev.eq (.t (.n 222 1 rfl))) (Ev.eq (.t .here)) (by omega) (by exact map_at hz) rfl) (kb_cons (.head _) kb_nil) ?_
                 refine g_v (listed' := bs 14 2047) 10 rfl (by kernel_rfl) rfl (fun _ => .plain rfl) rfl (fun _ hK => p_fieldf (fldT60_2) rfl (Ev.eq (.t .here)) rfl) (kb_cons (.head _) kb_nil) ?_
                 refine g_v (listed' := bs 14 4095) 11 rfl (by kernel_rfl) rfl (fun _ => .plain rfl) rfl (fun _ hK => p_load1f (scT22) rfl (Ev.eq (.t .here))) (kb_cons (.head _) kb_nil) ?_
                 refine g_v (listed' := bs 14 8191) 12 rfl (by kernel_rfl) rfl (fun _ => .plain rfl) rfl (fun _ hK => q_call rfl .f Tryd.call26 (.cons (.t (.n 221 5 rfl)) (.cons (.t .here) .nil)) rfl (f26_spec _ _)) (kb_cons (.head _) kb_nil) ?_
                 refine g_v (listed' := bs 14 16383) 13 rfl (by kernel_rfl) rfl (fun _ => .plain rfl) rfl (fun _ hK => opv_not rfl (Ev.eq (.t .here)) rfl) (kb_cons (.head _) kb_nil) ?_
                 refine g_end (by kernel_rfl) ?_
                 refine psplit (.n 227 1 rfl) (fun h227 => ?_) (fun h227 => ?_)
                 ·
                  have q227 := h227
                  try simp only [zs, List.length_map, bl_inj] at q227
                  refine pcond_f (.t .here) (congrArg not h227) ?_
                  refine awp_skip ?_
                  refine awp_region ?_
                  refine lv (.plain rfl) rfl rfl (opv_move rfl (Ev.eq (.t (.n 24 21 rfl)))) ?_
                  refine lv (.plain rfl) rfl rfl (opv_add rfl (Ev.eq (.t .here)) (Ev.eq .i) (wr64 (by omega) (by omega)) rfl) ?_
                  refine lv (.plain rfl) rfl rfl (opv_assign rfl (Ev.eq (.t .here))) ?_
                  refine awpL_nil ?_
                  refine ⟨j + 1, by omega, by omega, weak_both (.ce (.n 7 21 rfl) (by first | rfl | (simp; done) | (simp; omega)) (.ce (.n 19 22 rfl) (by first | rfl | (simp; done) | (simp; omega)) (.ce (.n 20 23 rfl) (by first | rfl | (simp; done) | (simp; omega)) (.ce .here (by first | rfl | (simp; done) | (simp; omega)) .nil)))) (List.Sublist.refl _)⟩
                 ·
                  have q227 := h227
                  try simp only [zs, List.length_map, bl_inj] at q227
                  refine pcond_t (.t .here) (congrArg not h227) ?_
                  refine awp_seq ?_
                  exfalso
                  exact q227 (merge_x hra hrb hrc (by simpa using q208) (List.mem_of_getElem? hz))
                ·
                 have q212 := h212
                 try simp only [zs, List.length_map, bl_inj] at q212
                 refine pcond_f (.t .here) h212 ?_
                 refine awp_exit ?_
                 refine awp_seq ?_
                 refine awp_region ?_
                 refine lv (.plain rfl) rfl rfl (opv_assign rfl (Ev.eq .i)) ?_
                 refine awpL_nil ?_
                 refine awp_block ?_
                 refine ploop (fun (j : Nat) => ⟨250, [(7, .ptr g7 0), (19, .d (.sl ((chgP ta tb).map encChg))), (20, .d (.sl ((chgP ta tc).map encChg))), (25, .d (.i .i64 (j : Int)))], [(g7, .var 25 [.d (.s (mergeR ta tb tc).t.label), .d (dRows (mergeR ta tb tc).t.rows), .d (.sl (encTries (mergeR ta tb tc).t.kids))])], []⟩) (fun j => j ≤ (chgP ta tc).length) (fun j => (chgP ta tc).length - j) (0) (weak_both (.ce (.n 7 5 rfl) (by first | rfl | (simp; done) | (simp; omega)) (.ce (.n 19 6 rfl) (by first | rfl | (simp; done) | (simp; omega)) (.ce (.n 20 7 rfl) (by first | rfl | (simp; done) | (simp; omega)) (.ce .here (by first | rfl | (simp; done) | (simp; omega)) .nil)))) (List.Sublist.refl _)) (Nat.zero_le _) ?_
                 rintro j hj
                 refine awp_seq ?_
                 refine awp_seq ?_
                 refine awp_region ?_
                 refine lv (.plain rfl) rfl rfl (opv_move rfl (Ev.eq (.t (.n 25 3 rfl)))) ?_
                 refine lv (.plain rfl) rfl rfl (opv_move rfl (Ev.eq (.t (.n 20 3 rfl)))) ?_
                 refine lv (.plain rfl) rfl rfl (opv_len_sl Tryd.underlying57 rfl (Ev.eq (.t .here)) rfl) ?_
                 refine lv (.plain rfl) rfl rfl (opv_lss rfl (Ev.eq (.t (.n 229 2 rfl))) (Ev.eq (.t .here)) rfl) ?_
                 refine awpL_nil ?_
                 refine psplit .here (fun h232 => ?_) (fun h232 => ?_)
                 ·
                  have q232 := h232
                  try simp only [zs, List.length_map, bl_inj] at q232
                  refine pcond_t (.t .here) h232 ?_
                  refine awp_skip ?_
                  refine awp_seq ?_
                  refine awp_block ?_
                  refine awp_seq ?_
                  refine g_draw mixed (kb_cons (.head _) kb_nil) (by kernel_rfl) (fuel := 14) rfl rfl ?_
                  refine g_v (listed' := bs 14 1) 0 rfl (by kernel_rfl) rfl (fun _ => .plain rfl) rfl (fun _ hK => m_loadn (agT25) rfl (Ev.eq (.t (.n 7 4 rfl))) (hK _ (.head _)) rfl) (kb_cons (.head _) kb_nil) ?_
                  refine g_v (listed' := bs 14 3) 1 rfl (by kernel_rfl) rfl (fun _ => .plain rfl) rfl (fun _ hK => opv_move rfl (Ev.eq (.t (.n 20 7 rfl)))) (kb_cons (.head _) kb_nil) ?_
                  refine g_v (listed' := bs 14 7) 2 rfl (by kernel_rfl) rfl (fun _ => .plain rfl) rfl (fun _ hK => opv_move rfl (Ev.eq (.t (.n 25 9 rfl)))) (kb_cons (.head _) kb_nil) ?_
                  obtain ⟨z, hz⟩ := some_at (l := (chgP ta tc)) (i := j) (by omega)
                  refine g_v (listed' := bs 14 15) 3 rfl (by kernel_rfl) rfl (fun _ => .plain rfl) rfl (fun _ hK => p_index (slT57) rfl (Ev.eq (.t (.n 236 1 rfl))) (Ev.eq (.t .here)) (by omega) (by exact map_at hz) rfl) (kb_cons (.head _) kb_nil) ?_
                  refine g_v (listed' := bs 14 31) 4 rfl (by kernel_rfl) rfl (fun _ => .plain rfl) rfl (fun _ hK => p_fieldf (fldT60_0) rfl (Ev.eq (.t .here)) rfl) (kb_cons (.head _) kb_nil) ?_
                  refine g_v (listed' := bs 14 63) 5 rfl (by kernel_rfl) rfl (fun _ => .plain rfl) rfl (fun _ hK => p_load1f (scT9) rfl (Ev.eq (.t .here))) (kb_cons (.head _) kb_nil) ?_
                  refine g_v (listed' := bs 14 127) 6 rfl (by kernel_rfl) rfl (fun _ => .plain rfl) rfl (fun _ hK => q_call rfl .f Tryd.call23 (.cons (.t (.n 235 5 rfl)) (.cons (.t .here) .nil)) rfl (f23_spec (mergeR ta tb tc).t z.path)) (kb_cons (.head _) kb_nil) ?_
                  refine g_v (listed' := bs 14 255) 7 rfl (by kernel_rfl) rfl (fun _ => .plain rfl) rfl (fun _ hK => opv_move rfl (Ev.eq (.t (.n 20 13 rfl)))) (kb_cons (.head _) kb_nil) ?_
                  refine g_v (listed' := bs 14 511) 8 rfl (by kernel_rfl) rfl (fun _ => .plain rfl) rfl (fun _ hK => opv_move rfl (Ev.eq (.t (.n 25 15 rfl)))) (kb_cons (.head _) kb_nil) ?_
                  refine g_v (listed' := bs 14 1023) 9 rfl (by kernel_rfl) rfl (fun _ => .plain rfl) rfl (fun _ hK => p_index (slT57) rfl (Ev.eq (.t (.n 242 1 rfl))) (Ev.eq (.t .here)) (by omega) (by exact map_at hz) rfl) (kb_cons (.head _) kb_nil) ?_
                  refine g_v (listed' := bs 14 2047) 10 rfl (by kernel_rfl) rfl (fun _ => .plain rfl) rfl (fun _ hK => p_fieldf (fldT60_2) rfl (Ev.eq (.t .here)) rfl) (kb_cons (.head _) kb_nil) ?_
                  refine g_v (listed' := bs 14 4095) 11 rfl (by kernel_rfl) rfl (fun _ => .plain rfl) rfl (fun _ hK => p_load1f (scT22) rfl (Ev.eq (.t .here))) (kb_cons (.head _) kb_nil) ?_
                  refine g_v (listed' := bs 14 8191) 12 rfl (by kernel_rfl) rfl (fun _ => .plain rfl) rfl (fun _ hK => q_call rfl .f Tryd.call26 (.cons (.t (.n 241 5 rfl)) (.cons (.t .here) .nil)) rfl (f26_spec _ _)) (kb_cons (.head _) kb_nil) ?_
                  refine g_v (listed' := bs 14 16383) 13 rfl (by kernel_rfl) rfl (fun _ => .plain rfl) rfl (fun _ hK => opv_not rfl (Ev.eq (.t .here)) rfl) (kb_cons (.head _) kb_nil) ?_
                  refine g_end (by kernel_rfl) ?_
                  refine psplit (.n 247 1 rfl) (fun h247 => ?_) (fun h247 => ?_)
                  ·
                   have q247 := h247
                   try simp only [zs, List.length_map, bl_inj] at q247
                   refine pcond_f (.t .here) (congrArg not h247) ?_
                   refine awp_skip ?_
                   refine awp_region ?_
                   refine lv (.plain rfl) rfl rfl (opv_move rfl (Ev.eq (.t (.n 25 21 rfl)))) ?_
                   refine lv (.plain rfl) rfl rfl (opv_add rfl (Ev.eq (.t .here)) (Ev.eq .i) (wr64 (by omega) (by omega)) rfl) ?_
                   refine lv (.plain rfl) rfl rfl (opv_assign rfl (Ev.eq (.t .here))) ?_
                   refine awpL_nil ?_
                   refine ⟨j + 1, by omega, by omega, weak_both (.ce (.n 7 21 rfl) (by first | rfl | (simp; done) | (simp; omega)) (.ce (.n 19 22 rfl) (by first | rfl | (simp; done) | (simp; omega)) (.ce (.n 20 23 rfl) (by first | rfl | (simp; done) | (simp; omega)) (.ce .here (by first | rfl | (simp; done) | (simp; omega)) .nil)))) (List.Sublist.refl _)⟩
                  ·
                   have q247 := h247
                   try simp only [zs, List.length_map, bl_inj] at q247
                   refine pcond_t (.t .here) (congrArg not h247) ?_
                   refine awp_seq ?_
                   exfalso
                   exact q247 (merge_y hra hrb hrc (by simpa using q208) (List.mem_of_getElem? hz))
                 ·
                  have q232 := h232
                  try simp only [zs, List.length_map, bl_inj] at q232
                  refine pcond_f (.t .here) h232 ?_
                  refine awp_exit ?_
                  refine awp_seq ?_
                  refine awp_region ?_
                  refine lv (.plain rfl) rfl rfl (q_call rfl .f Tryd.call9 .nil rfl (f9_spec)) ?_
                  refine lv (.plain rfl) rfl rfl (opv_assign rfl (Ev.eq (.t .here))) ?_
                  refine awpL_nil ?_
                  refine awp_ret ?_
                  refine ret_now (.one (rv_t .here)) (Cast.all _ _) ?_
                  exact ⟨rfl, rfl⟩
               ·
                have q208 := h208
                try simp only [zs, List.length_map, bl_inj] at q208
                refine pcond_f (.t .here) h208 ?_
                refine awp_skip ?_
                refine awp_seq ?_
                refine awp_region ?_
                refine lv (.plain rfl) rfl rfl (q_call rfl .f Tryd.call9 .nil rfl (f9_spec)) ?_
                refine lv (.plain rfl) rfl rfl (opv_assign rfl (Ev.eq (.t .here))) ?_
                refine awpL_nil ?_
                refine awp_ret ?_
                refine ret_now (.one (rv_t .here)) (Cast.all _ _) ?_
                exact ⟨rfl, rfl⟩
    ·
     have q36 := h36
     try simp only [zs, List.length_map, bl_inj] at q36
     refine lo (.off rfl rfl .here (congrArg not h36)) rfl rfl ?_
     refine lo (.off rfl rfl (.n 39 1 rfl) (congrArg not h36)) rfl rfl ?_
     refine lo (.off rfl rfl (.n 39 2 rfl) (congrArg not h36)) rfl rfl ?_
     refine lv (.plain rfl) rfl rfl (opv_pick_t rfl (Ev.eq (.t (.n 39 3 rfl))) (congrArg not h36) (Ev.eq .b)) ?_
     refine lv (.plain rfl) rfl rfl (opv_move rfl (Ev.eq (.t .here))) ?_
     refine lo (.off rfl rfl .here rfl) rfl rfl ?_
     refine lo (.off rfl rfl (.n 44 1 rfl) rfl) rfl rfl ?_
     refine lo (.off rfl rfl (.n 44 2 rfl) rfl) rfl rfl ?_
     refine lv (.plain rfl) rfl rfl (opv_pick_t rfl (Ev.eq (.t (.n 44 3 rfl))) rfl (Ev.eq .b)) ?_
     refine lv (.plain rfl) rfl rfl (opv_move rfl (Ev.eq (.t .here))) ?_
     refine lo (.off rfl rfl .here rfl) rfl rfl ?_
     refine lo (.off rfl rfl (.n 49 1 rfl) rfl) rfl rfl ?_
     refine lo (.off rfl rfl (.n 49 2 rfl) rfl) rfl rfl ?_
     refine lv (.plain rfl) rfl rfl (opv_pick_t rfl (Ev.eq (.t (.n 49 3 rfl))) rfl (Ev.eq .b)) ?_
     refine awpL_nil ?_
     refine pcond_t (.t .here) rfl ?_
     refine awp_seq ?_
     refine awp_region ?_
     refine lv (.plain rfl) rfl rfl (q_call rfl .f Tryd.call9 .nil rfl (f9_spec)) ?_
     refine lv (.plain rfl) rfl rfl (opv_assign rfl (Ev.eq (.t .here))) ?_
     refine awpL_nil ?_
     refine awp_ret ?_
     refine ret_now (.one (rv_t .here)) (Cast.all _ _) ?_
     exact ⟨rfl, rfl⟩
   ·
    have q31 := h31
    try simp only [zs, List.length_map, bl_inj] at q31
    refine lo (.off rfl rfl .here (congrArg not h31)) rfl rfl ?_
    refine lo (.off rfl rfl (.n 34 1 rfl) (congrArg not h31)) rfl rfl ?_
    refine lo (.off rfl rfl (.n 34 2 rfl) (congrArg not h31)) rfl rfl ?_
    refine lv (.plain rfl) rfl rfl (opv_pick_t rfl (Ev.eq (.t (.n 34 3 rfl))) (congrArg not h31) (Ev.eq .b)) ?_
    refine lv (.plain rfl) rfl rfl (opv_move rfl (Ev.eq (.t .here))) ?_
    refine lo (.off rfl rfl .here rfl) rfl rfl ?_
    refine lo (.off rfl rfl (.n 39 1 rfl) rfl) rfl rfl ?_
    refine lo (.off rfl rfl (.n 39 2 rfl) rfl) rfl rfl ?_
    refine lv (.plain rfl) rfl rfl (opv_pick_t rfl (Ev.eq (.t (.n 39 3 rfl))) rfl (Ev.eq .b)) ?_
    refine lv (.plain rfl) rfl rfl (opv_move rfl (Ev.eq (.t .here))) ?_
    refine lo (.off rfl rfl .here rfl) rfl rfl ?_
    refine lo (.off rfl rfl (.n 44 1 rfl) rfl) rfl rfl ?_
    refine lo (.off rfl rfl (.n 44 2 rfl) rfl) rfl rfl ?_
    refine lv (.plain rfl) rfl rfl (opv_pick_t rfl (Ev.eq (.t (.n 44 3 rfl))) rfl (Ev.eq .b)) ?_
    refine lv (.plain rfl) rfl rfl (opv_move rfl (Ev.eq (.t .here))) ?_
    refine lo (.off rfl rfl .here rfl) rfl rfl ?_
    refine lo (.off rfl rfl (.n 49 1 rfl) rfl) rfl rfl ?_
    refine lo (.off rfl rfl (.n 49 2 rfl) rfl) rfl rfl ?_
    refine lv (.plain rfl) rfl rfl (opv_pick_t rfl (Ev.eq (.t (.n 49 3 rfl))) rfl (Ev.eq .b)) ?_
    refine awpL_nil ?_
    refine pcond_t (.t .here) rfl ?_
    refine awp_seq ?_
    refine awp_region ?_
    refine lv (.plain rfl) rfl rfl (q_call rfl .f Tryd.call9 .nil rfl (f9_spec)) ?_
    refine lv (.plain rfl) rfl rfl (opv_assign rfl (Ev.eq (.t .here))) ?_
    refine awpL_nil ?_
    refine awp_ret ?_
    refine ret_now (.one (rv_t .here)) (Cast.all _ _) ?_
    exact ⟨rfl, rfl⟩
  ·
   have q27 := h27
   try simp only [zs, List.length_map, bl_inj] at q27
   refine lo (.off rfl rfl .here (congrArg not h27)) rfl rfl ?_
   refine lo (.off rfl rfl (.n 29 1 rfl) (congrArg not h27)) rfl rfl ?_
   refine lo (.off rfl rfl (.n 29 2 rfl) (congrArg not h27)) rfl rfl ?_
   refine lv (.plain rfl) rfl rfl (opv_pick_t rfl (Ev.eq (.t (.n 29 3 rfl))) (congrArg not h27) (Ev.eq .b)) ?_
   refine lv (.plain rfl) rfl rfl (opv_move rfl (Ev.eq (.t .here))) ?_
   refine lo (.off rfl rfl .here rfl) rfl rfl ?_
   refine lo (.off rfl rfl (.n 34 1 rfl) rfl) rfl rfl ?_
   refine lo (.off rfl rfl (.n 34 2 rfl) rfl) rfl rfl ?_
   refine lv (.plain rfl) rfl rfl (opv_pick_t rfl (Ev.eq (.t (.n 34 3 rfl))) rfl (Ev.eq .b)) ?_
   refine lv (.plain rfl) rfl rfl (opv_move rfl (Ev.eq (.t .here))) ?_
   refine lo (.off rfl rfl .here rfl) rfl rfl ?_
   refine lo (.off rfl rfl (.n 39 1 rfl) rfl) rfl rfl ?_
   refine lo (.off rfl rfl (.n 39 2 rfl) rfl) rfl rfl ?_
   refine lv (.plain rfl) rfl rfl (opv_pick_t rfl (Ev.eq (.t (.n 39 3 rfl))) rfl (Ev.eq .b)) ?_
   refine lv (.plain rfl) rfl rfl (opv_move rfl (Ev.eq (.t .here))) ?_
   refine lo (.off rfl rfl .here rfl) rfl rfl ?_
   refine lo (.off rfl rfl (.n 44 1 rfl) rfl) rfl rfl ?_
   refine lo (.off rfl rfl (.n 44 2 rfl) rfl) rfl rfl ?_
   refine lv (.plain rfl) rfl rfl (opv_pick_t rfl (Ev.eq (.t (.n 44 3 rfl))) rfl (Ev.eq .b)) ?_
   refine lv (.plain rfl) rfl rfl (opv_move rfl (Ev.eq (.t .here))) ?_
   refine lo (.off rfl rfl .here rfl) rfl rfl ?_
   refine lo (.off rfl rfl (.n 49 1 rfl) rfl) rfl rfl ?_
   refine lo (.off rfl rfl (.n 49 2 rfl) rfl) rfl rfl ?_
   refine lv (.plain rfl) rfl rfl (opv_pick_t rfl (Ev.eq (.t (.n 49 3 rfl))) rfl (Ev.eq .b)) ?_
   refine awpL_nil ?_
   refine pcond_t (.t .here) rfl ?_
   refine awp_seq ?_
   refine awp_region ?_
   refine lv (.plain rfl) rfl rfl (q_call rfl .f Tryd.call9 .nil rfl (f9_spec)) ?_
   refine lv (.plain rfl) rfl rfl (opv_assign rfl (Ev.eq (.t .here))) ?_
   refine awpL_nil ?_
   refine awp_ret ?_
   refine ret_now (.one (rv_t .here)) (Cast.all _ _) ?_
   exact ⟨rfl, rfl⟩
end Go.Proofs.YtjnkbmodcddbkaaDoor
