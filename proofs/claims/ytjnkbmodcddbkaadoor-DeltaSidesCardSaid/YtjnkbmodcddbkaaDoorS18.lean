/- What a path has. -/
import Derived.Test.YtjnkbmodcddbkaaDoorTy
import Derived.Test.YtjnkbmodcddbkaaDoorL4
import Derived.Test.YtjnkbmodcddbkaaDoorS9
set_option linter.unusedVariables false
set_option linter.unusedSimpArgs false
namespace Go.Proofs.YtjnkbmodcddbkaaDoor
open Go Go.RowKit
theorem f84_spec (s p : ByteArray) : FSpec Tryd.prog 84 [.d (.s s), .d (.s p)] (.d (.b (prefB p s))) := by
  refine acalls_of Tryd.func84 rfl Tryd.ntmps84 Tryd.results84 (by simp) ?_
  refine awp_seq ?_
  refine awp_region ?_
  refine lv (.plain rfl) rfl rfl (opv_assign rfl (Ev.eq .b)) ?_
  refine awpL_nil ?_
  refine awp_seq ?_
  refine awp_region ?_
  refine lv (.plain rfl) rfl rfl (opv_move rfl (Ev.eq (.t (.n 0 1 rfl)))) ?_
  refine lv (.plain rfl) rfl rfl (opv_len_s Tryd.underlying9 rfl (Ev.eq (.t .here)) rfl) ?_
  refine lv (.plain rfl) rfl rfl (opv_move rfl (Ev.eq (.t (.n 1 4 rfl)))) ?_
  refine lv (.plain rfl) rfl rfl (opv_len_s Tryd.underlying9 rfl (Ev.eq (.t .here)) rfl) ?_
  refine lv (.plain rfl) rfl rfl (opv_geq rfl (Ev.eq (.t (.n 6 2 rfl))) (Ev.eq (.t .here)) rfl) ?_
  refine lv (.plain rfl) rfl rfl (opv_move rfl (Ev.eq (.t .here))) ?_
  refine lsplit (.n 9 1 rfl) (fun h9 => ?_) (fun h9 => ?_)
  ·
   have q9 := h9
   try simp only [zs] at q9
   refine lv (.on rfl rfl .here h9) rfl rfl (opv_move rfl (Ev.eq (.t (.n 0 7 rfl)))) ?_
   refine lv (.on rfl rfl (.n 10 1 rfl) h9) rfl rfl (opv_move rfl (Ev.eq (.t (.n 1 9 rfl)))) ?_
   refine lv (.on rfl rfl (.n 10 2 rfl) h9) rfl rfl (opv_len_s Tryd.underlying9 rfl (Ev.eq (.t .here)) rfl) ?_
   refine lv (.on rfl rfl (.n 10 3 rfl) h9) rfl rfl (opv_slice_s Tryd.underlying9 rfl (Ev.eq (.t (.n 11 2 rfl))) rfl ⟨_, (Ev.eq (.t .here))⟩ (by omega) (by omega) (by omega) rfl) ?_
   refine lv (.on rfl rfl (.n 10 4 rfl) h9) rfl rfl (opv_move rfl (Ev.eq (.t (.n 1 12 rfl)))) ?_
   refine lv (.on rfl rfl (.n 10 5 rfl) h9) rfl rfl (opv_eql_s rfl (Ev.eq (.t (.n 14 1 rfl))) (Ev.eq (.t .here)) rfl) ?_
   refine lv (.plain rfl) rfl rfl (opv_pick_t rfl (Ev.eq (.t (.n 10 6 rfl))) h9 (Ev.eq (.t .here))) ?_
   refine lv (.plain rfl) rfl rfl (opv_assign rfl (Ev.eq (.t .here))) ?_
   refine awpL_nil ?_
   refine awp_ret ?_
   refine ret_now (.one (rv_t .here)) (Cast.all _ _) ?_
   refine ⟨congrArg (fun x => AV.d (D.b x)) (Bool.eq_iff_iff.2 ?_), rfl⟩
   simp_all [prefB, bl_inj]
   try omega
  ·
   have q9 := h9
   try simp only [zs] at q9
   refine lo (.off rfl rfl .here h9) rfl rfl ?_
   refine lo (.off rfl rfl (.n 10 1 rfl) h9) rfl rfl ?_
   refine lo (.off rfl rfl (.n 10 2 rfl) h9) rfl rfl ?_
   refine lo (.off rfl rfl (.n 10 3 rfl) h9) rfl rfl ?_
   refine lo (.off rfl rfl (.n 10 4 rfl) h9) rfl rfl ?_
   refine lo (.off rfl rfl (.n 10 5 rfl) h9) rfl rfl ?_
   refine lv (.plain rfl) rfl rfl (opv_pick_f rfl (Ev.eq (.t (.n 10 6 rfl))) h9 (Ev.eq .b)) ?_
   refine lv (.plain rfl) rfl rfl (opv_assign rfl (Ev.eq (.t .here))) ?_
   refine awpL_nil ?_
   refine awp_ret ?_
   refine ret_now (.one (rv_t .here)) (Cast.all _ _) ?_
   refine ⟨congrArg (fun x => AV.d (D.b x)) (Bool.eq_iff_iff.2 ?_), rfl⟩
   simp_all [prefB, bl_inj]
   try omega
theorem f54_spec (s p : ByteArray) : FSpec Tryd.prog 54 [.d (.s s), .d (.s p)] (.d (.b (prefB p s))) := by
  refine acalls_of Tryd.func54 rfl Tryd.ntmps54 Tryd.results54 (by simp) ?_
  refine awp_seq ?_
  refine awp_region ?_
  refine lv (.plain rfl) rfl rfl (opv_assign rfl (Ev.eq .b)) ?_
  refine awpL_nil ?_
  refine awp_seq ?_
  refine awp_region ?_
  refine lv (.plain rfl) rfl rfl (opv_move rfl (Ev.eq (.t (.n 0 1 rfl)))) ?_
  refine lv (.plain rfl) rfl rfl (opv_move rfl (Ev.eq (.t (.n 1 3 rfl)))) ?_
  refine lv (.plain rfl) rfl rfl (q_call rfl .f Tryd.call84 (.cons (.t (.n 5 1 rfl)) (.cons (.t .here) .nil)) rfl (f84_spec _ _)) ?_
  refine lv (.plain rfl) rfl rfl (opv_assign rfl (Ev.eq (.t .here))) ?_
  refine awpL_nil ?_
  refine awp_ret ?_
  refine ret_now (.one (rv_t .here)) (Cast.all _ _) ?_
  exact ⟨rfl, rfl⟩
theorem erI_ok {b : Bool} (h : erI b = 0) : b = true := by cases b <;> simp_all [erI]
theorem rows_len {l : List Row} (h : rowsB l = true) : l.length ≤ 1000000000 := by
  unfold rowsB at h
  simp only [Bool.and_eq_true, decide_eq_true_eq] at h
  omega
theorem kids_rise {ks : List Trie} {left : Int} (h : kidsB ks left (-1) = true) : ∀ (i j : Nat) (t u : Trie), i ≤ j → ks[i]? = some t → ks[j]? = some u → bt t.label 0 ≤ bt u.label 0 := fun i j t u hij hi hj => by
  rcases Nat.lt_or_eq_of_le hij with h1 | rfl
  · obtain ⟨a1, a2⟩ := List.getElem?_eq_some_iff.1 hi
    obtain ⟨b1, b2⟩ := List.getElem?_eq_some_iff.1 hj
    have := List.pairwise_iff_getElem.1 (kidsB_iff.1 h).2 i j a1 b1 h1
    rw [a2, b2] at this
    omega
  · rw [hi] at hj
    injection hj with hj
    rw [hj]
    exact Int.le_refl _
theorem hit_at {ks : List Trie} {b : Int} (h : hitB ks b = true) : ∃ k, ks[posF ks b]? = some k ∧ bt k.label 0 = b := by
  unfold hitB at h
  split at h
  · rename_i k hk
    exact ⟨k, hk, of_decide_eq_true h⟩
  · cases h
theorem goG_hit {f : Nat} {t k : Trie} {q : ByteArray} (h1 : ¬ q = ⟨#[]⟩) (h2 : hitB t.kids (bt q 0) = true) (h3 : t.kids[posF t.kids (bt q 0)]? = some k) : goG (f + 1) t q = if prefB k.label q then goG f k (q.extract k.label.size q.size) else [] := by
  rw [goG, if_neg h1, if_pos h2, h3]
theorem f23_spec (t : Trie) (p : ByteArray) : FSpec Tryd.prog 23 [aTrie t, .d (.s p)] (.d (dRows (getP t p))) := by
  obtain ⟨l, r, ks, hte⟩ : ∃ l r ks, t = Trie.mk l r ks := by cases t; exact ⟨_, _, _, rfl⟩
  have hk0 : rightB t = true → t.label = ⟨#[]⟩ ∧ rowsB t.rows = true ∧ kidsB t.kids 24 (-1) = true := fun h => by
    rw [hte] at h ⊢
    obtain ⟨h1, h2, h3⟩ := rightB_iff.1 h
    exact ⟨h1, by show rowsB r = true; rw [h2]; rfl, h3⟩
  show FSpec _ _ [.agg [.d (.s t.label), .d (dRows t.rows), .d (.sl (encTries t.kids))], .d (.s p)] _
  refine acalls_of Tryd.func23 rfl Tryd.ntmps23 Tryd.results23 (by simp) ?_
  refine awp_seq ?_
  refine awp_region ?_
  refine l_box (.plain rfl) rfl rfl rfl (.t .here) rfl rfl (fun g1 ng1 => ?_)
  refine lv (.plain rfl) rfl rfl (opv_assign rfl (Ev.eq .n)) ?_
  refine awpL_nil ?_
  refine awp_seq ?_
  refine awp_seq ?_
  refine awp_region ?_
  refine lv (.plain rfl) rfl rfl (q_loadn (agT25) rfl (Ev.eq (.t (.n 2 1 rfl))) .here rfl) ?_
  refine lv (.plain rfl) rfl rfl (q_call rfl .f Tryd.call15 (.cons (.t .here) .nil) rfl (f15_spec t)) ?_
  refine lv (.plain rfl) rfl rfl (opv_neq_i rfl (Ev.eq (.t .here)) (Ev.eq .i) rfl) ?_
  refine awpL_nil ?_
  refine psplit .here (fun h9 => ?_) (fun h9 => ?_)
  ·
   have q9 := h9
   try simp only [zs, bl_inj] at q9
   refine pcond_t (.t .here) h9 ?_
   refine awp_seq ?_
   refine awp_region ?_
   refine lv (.plain rfl) rfl rfl (opv_assign rfl (Ev.eq .n)) ?_
   refine awpL_nil ?_
   refine awp_ret ?_
   refine ret_now (.one (rv_t .here)) (Cast.frz0 .nil) ?_
   rw [show getP t p = [] from if_neg (fun h => q9 (by rw [h]; rfl))]
   exact ⟨rfl, rfl⟩
  ·
   have q9 := h9
   try simp only [zs, bl_inj] at q9
   refine pcond_f (.t .here) h9 ?_
   refine awp_skip ?_
   refine awp_seq ?_
   refine awp_block ?_
   refine ploop (fun (a : Nat × Trie × ByteArray) => ⟨46, [(1, .d (.s a.2.2)), (2, .ptr g1 0)], [(g1, .var 25 [.d (.s a.2.1.label), .d (dRows a.2.1.rows), .d (.sl (encTries a.2.1.kids))])], []⟩) (fun a => rightB t = true ∧ goG a.1 a.2.1 a.2.2 = goG (p.size + 1) t p ∧ a.2.2.size < a.1 ∧ ∃ left : Int, left ≤ 24 ∧ kidsB a.2.1.kids left (-1) = true ∧ rowsB a.2.1.rows = true) (fun a => a.2.2.size) ((p.size + 1, t, p)) (weak_both (.ce (.n 1 6 rfl) (by first | rfl | (simp; done) | (simp; omega)) (.ce (.n 2 4 rfl) (by first | rfl | (simp; done) | (simp; omega)) .nil)) (List.Sublist.refl _)) (⟨erI_ok q9, rfl, Nat.lt_succ_self _, 24, by omega, (hk0 (erI_ok q9)).2.2, (hk0 (erI_ok q9)).2.1⟩) ?_
   rintro ⟨f, x, q⟩ ⟨hr, hgo, hf, left, hleft, hks, hrows⟩
   dsimp only at hgo hf hks hrows ⊢
   refine awp_seq ?_
   refine awp_seq ?_
   refine awp_region ?_
   refine lv (.plain rfl) rfl rfl (opv_move rfl (Ev.eq (.t .here))) ?_
   refine lv (.plain rfl) rfl rfl (opv_neq_s rfl (Ev.eq (.t .here)) (Ev.eq .s) rfl) ?_
   refine awpL_nil ?_
   refine psplit .here (fun h11 => ?_) (fun h11 => ?_)
   ·
    have q11 := h11
    try simp only [zs, bl_inj] at q11
    refine pcond_t (.t .here) h11 ?_
    refine awp_skip ?_
    refine awp_block ?_
    refine awp_seq ?_
    refine g_draw mixed (kb_cons (.head _) kb_nil) (by kernel_rfl) (fuel := 10) rfl rfl ?_
    refine g_v (listed' := bs 10 1) 0 rfl (by kernel_rfl) rfl (fun _ => .plain rfl) rfl (fun _ hK => p_field (fldT25_2) rfl (Ev.eq (.t (.n 2 3 rfl))) (off' := 2) rfl) (kb_cons (.head _) kb_nil) ?_
    have hq0 : 0 < q.size := by
      rcases Nat.eq_zero_or_pos q.size with h | h
      · exact absurd (bl_eq_nil.1 (List.eq_nil_of_length_eq_zero (by rw [bl_len]; exact h))) q11
      · exact h
    obtain ⟨h5, h6⟩ := kidsB_iff.1 hks
    have hP : ∀ t, t ∈ x.kids → 0 < t.label.size := fun t ht => (nodeB_lab (h5 t ht).1).1
    have hS := kids_rise hks
    have hlen : x.kids.length ≤ 1000000000 := by have := kidsB_len _ _ _ (by omega) (by omega) hks; omega
    refine g_v (listed' := bs 10 3) 1 rfl (by kernel_rfl) rfl (fun _ => .plain rfl) rfl (fun _ hK => m_load1 (scT23) rfl (Ev.eq (.t .here)) (hK _ (.head _)) (.there (.there .here))) (kb_cons (.head _) kb_nil) ?_
    refine g_v (listed' := bs 10 7) 2 rfl (by kernel_rfl) rfl (fun _ => .plain rfl) rfl (fun _ hK => opv_move rfl (Ev.eq (.t (.n 1 4 rfl)))) (kb_cons (.head _) kb_nil) ?_
    refine g_v (listed' := bs 10 15) 3 rfl (by kernel_rfl) rfl (fun _ => .plain rfl) rfl (fun _ hK => opv_index_s Tryd.underlying9 rfl (Ev.eq (.t .here)) (Ev.eq .i) (by omega) (by omega) rfl) (kb_cons (.head _) kb_nil) ?_
    refine g_v (listed' := bs 10 31) 4 rfl (by kernel_rfl) rfl (fun _ => .plain rfl) rfl (fun _ hK => q_call rfl .f Tryd.call53 (.cons (.t (.n 14 2 rfl)) (.cons (.t .here) .nil)) rfl (f53_spec x.kids (bt q 0) (bt_range _ _) hP hS hlen)) (kb_cons (.head _) kb_nil) ?_
    refine g_v (listed' := bs 10 63) 5 rfl (by kernel_rfl) rfl (fun _ => .plain rfl) rfl (fun _ hK => opv_move rfl (Ev.eq (.t .here))) (kb_cons (.head _) kb_nil) ?_
    refine g_v (listed' := bs 10 127) 6 rfl (by kernel_rfl) rfl (fun _ => .plain rfl) rfl (fun _ hK => q_extract rfl (Ev.eq (.t .here)) .here) (kb_cons (.head _) kb_nil) ?_
    refine g_v (listed' := bs 10 255) 7 rfl (by kernel_rfl) rfl (fun _ => .plain rfl) rfl (fun _ hK => q_extract rfl (Ev.eq (.t (.n 12 1 rfl))) (.there .here)) (kb_cons (.head _) kb_nil) ?_
    refine g_v (listed' := bs 10 511) 8 rfl (by kernel_rfl) rfl (fun _ => .plain rfl) rfl (fun _ hK => opv_assign rfl (Ev.eq (.t (.n 18 1 rfl)))) (kb_cons (.head _) kb_nil) ?_
    refine g_v (listed' := bs 10 1023) 9 rfl (by kernel_rfl) rfl (fun _ => .plain rfl) rfl (fun _ hK => opv_assign rfl (Ev.eq (.t (.n 19 1 rfl)))) (kb_cons (.head _) kb_nil) ?_
    refine g_end (by kernel_rfl) ?_
    refine awp_seq ?_
    refine awp_seq ?_
    refine awp_region ?_
    refine lv (.plain rfl) rfl rfl (opv_move rfl (Ev.eq (.t .here))) ?_
    refine lv (.plain rfl) rfl rfl (opv_not rfl (Ev.eq (.t .here)) rfl) ?_
    refine lv (.plain rfl) rfl rfl (opv_move rfl (Ev.eq (.t .here))) ?_
    refine lsplit (.n 19 5 rfl) (fun h19 => ?_) (fun h19 => ?_)
    ·
     have q19 := h19
     try simp only [zs, bl_inj] at q19
     refine lv (.on rfl rfl .here (congrArg not h19)) rfl rfl (opv_move rfl (Ev.eq (.t (.n 1 15 rfl)))) ?_
     refine lv (.on rfl rfl (.n 22 1 rfl) (congrArg not h19)) rfl rfl (p_field (fldT25_2) rfl (Ev.eq (.t (.n 2 17 rfl))) (off' := 2) rfl) ?_
     refine lv (.on rfl rfl (.n 22 2 rfl) (congrArg not h19)) rfl rfl (q_load1 (scT23) rfl (Ev.eq (.t .here)) .here (.there (.there .here))) ?_
     obtain ⟨⟨kl, kr, kk⟩, hkid, hkb⟩ := hit_at q19
     have hn := nodeB_iff.1 (h5 _ (List.mem_of_getElem? hkid)).1
     refine lv (.on rfl rfl (.n 22 3 rfl) (congrArg not h19)) rfl rfl (opv_move rfl (Ev.eq (.t (.n 5 7 rfl)))) ?_
     refine lv (.on rfl rfl (.n 22 4 rfl) (congrArg not h19)) rfl rfl (p_index (slT23) rfl (Ev.eq (.t (.n 25 1 rfl))) (Ev.eq (.t .here)) (by omega) (by exact encTries_at hkid) rfl) ?_
     refine lv (.on rfl rfl (.n 22 5 rfl) (congrArg not h19)) rfl rfl (p_fieldf (fldT25_0) rfl (Ev.eq (.t .here)) rfl) ?_
     refine lv (.on rfl rfl (.n 22 6 rfl) (congrArg not h19)) rfl rfl (p_load1f (scT9) rfl (Ev.eq (.t .here))) ?_
     refine lv (.on rfl rfl (.n 22 7 rfl) (congrArg not h19)) rfl rfl (q_call rfl .f Tryd.call54 (.cons (.t (.n 23 6 rfl)) (.cons (.t .here) .nil)) rfl (f54_spec q kl)) ?_
     refine lv (.on rfl rfl (.n 22 8 rfl) (congrArg not h19)) rfl rfl (opv_not rfl (Ev.eq (.t .here)) rfl) ?_
     refine lv (.plain rfl) rfl rfl (opv_pick_f rfl (Ev.eq (.t (.n 22 9 rfl))) (congrArg not h19) (Ev.eq (.t .here))) ?_
     refine awpL_nil ?_
     refine psplit (.n 30 2 rfl) (fun h30 => ?_) (fun h30 => ?_)
     ·
      have q30 := h30
      try simp only [zs, bl_inj] at q30
      refine pcond_f (.t .here) (congrArg not h30) ?_
      refine awp_skip ?_
      refine awp_seq ?_
      obtain ⟨f, rfl⟩ : ∃ f', f = f' + 1 := ⟨f - 1, by omega⟩
      have hgo2 := hgo
      rw [goG_hit q11 q19 hkid, if_pos (by simp only [Trie.label]; exact q30)] at hgo2
      have hle : kl.size ≤ q.size := by have := q30; unfold prefB at this; simp only [Bool.and_eq_true, decide_eq_true_eq] at this; exact this.1
      refine awp_region ?_
      refine lv (.plain rfl) rfl rfl (p_field (fldT25_2) rfl (Ev.eq (.t (.n 2 26 rfl))) (off' := 2) rfl) ?_
      refine lv (.plain rfl) rfl rfl (q_load1 (scT23) rfl (Ev.eq (.t .here)) .here (.there (.there .here))) ?_
      refine lv (.plain rfl) rfl rfl (opv_move rfl (Ev.eq (.t (.n 5 16 rfl)))) ?_
      refine lv (.plain rfl) rfl rfl (p_index (slT23) rfl (Ev.eq (.t (.n 34 1 rfl))) (Ev.eq (.t .here)) (by omega) (by exact encTries_at hkid) rfl) ?_
      refine lv (.plain rfl) rfl rfl (p_loadnf (agT25) rfl (Ev.eq (.t .here)) (Nat.le_of_ble_eq_true rfl) rfl) ?_
      refine l_storen Tryd.sizeOf25 (.plain rfl) rfl rfl (.t (.n 2 31 rfl)) (.t .here) rfl rfl rfl .here ?_
      refine awpL_nil ?_
      refine awp_region ?_
      refine lv (.plain rfl) rfl rfl (opv_move rfl (Ev.eq (.t (.n 1 30 rfl)))) ?_
      refine lv (.plain rfl) rfl rfl (p_field (fldT25_0) rfl (Ev.eq (.t (.n 2 32 rfl))) (off' := 0) rfl) ?_
      refine lv (.plain rfl) rfl rfl (q_load1 (scT9) rfl (Ev.eq (.t .here)) .here .here) ?_
      refine lv (.plain rfl) rfl rfl (opv_len_s Tryd.underlying9 rfl (Ev.eq (.t .here)) rfl) ?_
      refine lv (.plain rfl) rfl rfl (opv_slice_s Tryd.underlying9 rfl (Ev.eq (.t (.n 38 3 rfl))) ⟨_, (Ev.eq (.t .here))⟩ rfl (by omega) (by omega) (by omega) rfl) ?_
      refine lv (.plain rfl) rfl rfl (opv_assign rfl (Ev.eq (.t .here))) ?_
      refine awpL_nil ?_
      refine ⟨(f, .mk kl kr kk, q.extract kl.size q.size), by dsimp only; rw [ext_size _ (Nat.le_refl _)]; omega, ⟨hr, hgo2, by dsimp only; rw [ext_size _ (Nat.le_refl _)]; omega, left - kl.size, by omega, hn.2.2.2, hn.2.1⟩, weak_both (.ce .here (by first | rfl | (simp; done) | (simp; omega)) (.ce (.n 2 37 rfl) (by first | rfl | (simp; done) | (simp; omega)) .nil)) (List.Sublist.refl _)⟩
     ·
      have q30 := h30
      try simp only [zs, bl_inj] at q30
      refine pcond_t (.t .here) (congrArg not h30) ?_
      refine awp_seq ?_
      refine awp_region ?_
      refine lv (.plain rfl) rfl rfl (opv_assign rfl (Ev.eq .n)) ?_
      refine awpL_nil ?_
      refine awp_ret ?_
      refine ret_now (.one (rv_t .here)) (Cast.frz0 .nil) ?_
      obtain ⟨f, rfl⟩ : ∃ f', f = f' + 1 := ⟨f - 1, by omega⟩
      rw [goG_hit q11 q19 hkid, if_neg (by simp only [Trie.label]; rw [q30]; simp)] at hgo
      rw [show getP t p = [] from by unfold getP; rw [if_pos hr, ← hgo]]
      exact ⟨rfl, rfl⟩
    ·
     have q19 := h19
     try simp only [zs, bl_inj] at q19
     refine lo (.off rfl rfl .here (congrArg not h19)) rfl rfl ?_
     refine lo (.off rfl rfl (.n 22 1 rfl) (congrArg not h19)) rfl rfl ?_
     refine lo (.off rfl rfl (.n 22 2 rfl) (congrArg not h19)) rfl rfl ?_
     refine lo (.off rfl rfl (.n 22 3 rfl) (congrArg not h19)) rfl rfl ?_
     refine lo (.off rfl rfl (.n 22 4 rfl) (congrArg not h19)) rfl rfl ?_
     refine lo (.off rfl rfl (.n 22 5 rfl) (congrArg not h19)) rfl rfl ?_
     refine lo (.off rfl rfl (.n 22 6 rfl) (congrArg not h19)) rfl rfl ?_
     refine lo (.off rfl rfl (.n 22 7 rfl) (congrArg not h19)) rfl rfl ?_
     refine lo (.off rfl rfl (.n 22 8 rfl) (congrArg not h19)) rfl rfl ?_
     refine lv (.plain rfl) rfl rfl (opv_pick_t rfl (Ev.eq (.t (.n 22 9 rfl))) (congrArg not h19) (Ev.eq .b)) ?_
     refine awpL_nil ?_
     refine pcond_t (.t .here) rfl ?_
     refine awp_seq ?_
     refine awp_region ?_
     refine lv (.plain rfl) rfl rfl (opv_assign rfl (Ev.eq .n)) ?_
     refine awpL_nil ?_
     refine awp_ret ?_
     refine ret_now (.one (rv_t .here)) (Cast.frz0 .nil) ?_
     obtain ⟨f, rfl⟩ : ∃ f', f = f' + 1 := ⟨f - 1, by omega⟩
     rw [goG, if_neg q11, if_neg (by rw [q19]; simp)] at hgo
     rw [show getP t p = [] from by unfold getP; rw [if_pos hr, ← hgo]]
     exact ⟨rfl, rfl⟩
   ·
    have q11 := h11
    try simp only [zs, bl_inj] at q11
    refine pcond_f (.t .here) h11 ?_
    refine awp_exit ?_
    refine awp_seq ?_
    refine awp_region ?_
    refine lv (.plain rfl) rfl rfl (p_field (fldT25_1) rfl (Ev.eq (.t (.n 2 3 rfl))) (off' := 1) rfl) ?_
    refine lv (.plain rfl) rfl rfl (q_load1 (scT22) rfl (Ev.eq (.t .here)) .here (.there .here)) ?_
    refine lv (.plain rfl) rfl rfl (q_call rfl .f Tryd.call55 (.cons (.t .here) .nil) rfl (f55_spec x.rows (rows_len hrows))) ?_
    refine lv (.plain rfl) rfl rfl (opv_assign rfl (Ev.eq (.t .here))) ?_
    refine awpL_nil ?_
    refine awp_ret ?_
    refine ret_now (.one (rv_t .here)) (Cast.all _ _) ?_
    obtain ⟨f, rfl⟩ : ∃ f', f = f' + 1 := ⟨f - 1, by omega⟩
    rw [goG, if_pos q11] at hgo
    rw [show getP t p = x.rows from by unfold getP; rw [if_pos hr, ← hgo]]
    exact ⟨rfl, rfl⟩
end Go.Proofs.YtjnkbmodcddbkaaDoor
