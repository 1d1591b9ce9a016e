/- DeltaMerges. -/
import Derived.Test.YtjnkbmodcddbkaaDoorTy
import Derived.Test.YtjnkbmodcddbkaaDoorS16
import Derived.Test.YtjnkbmodcddbkaaDoorS1
set_option linter.unusedVariables false
set_option linter.unusedSimpArgs false
namespace Go.Proofs.YtjnkbmodcddbkaaDoor
open Go Go.RowKit
def smallB (t : Trie) : Bool := decide (0 < leftF t 200 60)
theorem left_cnt : ∀ (t : Trie) (n d : Int), 0 < leftF t n d → (t.cnt : Int) + leftF t n d ≤ n := by
  intro t
  induction t using Trie.ind with
  | h l r ks ih =>
    intro n d
    have key : ∀ (ks' : List Trie), (∀ k, k ∈ ks' → ∀ (n d : Int), 0 < leftF k n d → (k.cnt : Int) + leftF k n d ≤ n) → ∀ (n d : Int), 0 < leftKs ks' n d → (cntL ks' : Int) + leftKs ks' n d ≤ n := by
      intro ks'
      induction ks' with
      | nil => intro _ n d hn; simp only [leftKs, cntL] at hn ⊢; omega
      | cons k ks' ih' =>
        intro hk n d hn
        simp only [leftKs, cntL] at hn ⊢
        split at hn
        · rename_i h0
          rw [if_pos h0]
          have h2 := ih' (fun k' hk' => hk k' (by simp [hk'])) (leftF k n d) d hn
          have h1 := hk k (by simp) n d (by omega)
          omega
        · omega
    simp only [leftF, Trie.cnt]
    split
    · intro h; omega
    · intro h
      have := key ks ih (n - 1 - (l.size : Int) / 50) (d - 1) h
      have : (0 : Int) ≤ (l.size : Int) / 50 := by omega
      omega
theorem small_cnt {t : Trie} (h : smallB t = true) : t.cnt ≤ 100000 := by
  have h1 := of_decide_eq_true h
  have := left_cnt t 200 60 h1
  omega
theorem mergeR_right (a b c : Trie) : rightB (mergeR a b c).t = true := by
  rw [← merge_eq]
  unfold mergeP
  split
  · rfl
  · rename_i h
    simp only [Bool.not_eq_true', Bool.and_eq_false_iff, not_or, Bool.not_eq_false] at h
    obtain ⟨t, h1, h2, h3⟩ := merge_tree h.1 h.2.1 h.2.2
    rw [h2]
    simp only
    split
    · exact h1
    · rfl
theorem f8_spec (t : Trie) (hl : t.lab) : FSpec Tryd.prog 8 [aTrie t] (.d (.b (smallB t))) := by
  obtain ⟨la, ra, ka⟩ := t
  show FSpec _ _ [.agg [.d (.s la), .d (dRows ra), .d (.sl (encTries ka))]] _
  refine acalls_of Tryd.func8 rfl Tryd.ntmps8 Tryd.results8 (by simp) ?_
  refine awp_seq ?_
  refine awp_region ?_
  refine l_box (.plain rfl) rfl rfl rfl (.t .here) rfl rfl (fun g1 ng1 => ?_)
  refine lv (.plain rfl) rfl rfl (opv_assign rfl (Ev.eq .b)) ?_
  refine awpL_nil ?_
  refine awp_seq ?_
  refine awp_region ?_
  refine lv (.plain rfl) rfl rfl (q_loadn (agT25) rfl (Ev.eq (.t (.n 1 1 rfl))) .here rfl) ?_
  refine lv (.plain rfl) rfl rfl (q_call rfl .f Tryd.call28 (.cons (.t .here) (.cons .i (.cons .i .nil))) rfl (f28_spec (.mk la ra ka) 200 60 hl (by omega) (by omega) (by omega) (by omega))) ?_
  refine lv (.plain rfl) rfl rfl (opv_gtr rfl (Ev.eq (.t .here)) (Ev.eq .i) rfl) ?_
  refine lv (.plain rfl) rfl rfl (opv_assign rfl (Ev.eq (.t .here))) ?_
  refine awpL_nil ?_
  refine awp_ret ?_
  refine ret_now (.one (rv_t .here)) (Cast.all _ _) ?_
  exact ⟨rfl, rfl⟩
theorem f3_spec (ta tb tc : Trie) (ha : ta.lab) (hb : tb.lab) (hc : tc.lab) : FSpec Tryd.prog 3 [aTrie ta, aTrie tb, aTrie tc] (.d (.b true)) := by
  obtain ⟨la, ra, ka⟩ := ta
  obtain ⟨lb, rb, kb⟩ := tb
  obtain ⟨lc, rc, kc⟩ := tc
  show FSpec _ _ [.agg [.d (.s la), .d (dRows ra), .d (.sl (encTries ka))], .agg [.d (.s lb), .d (dRows rb), .d (.sl (encTries kb))], .agg [.d (.s lc), .d (dRows rc), .d (.sl (encTries kc))]] _
  refine acalls_of Tryd.func3 rfl Tryd.ntmps3 Tryd.results3 (by simp) ?_
  refine awp_seq ?_
  refine awp_region ?_
  refine l_box (.plain rfl) rfl rfl rfl (.t .here) rfl rfl (fun g1 ng1 => ?_)
  refine l_box (.plain rfl) rfl rfl rfl (.t (.n 1 2 rfl)) rfl rfl (fun g2 ng2 => ?_)
  refine l_box (.plain rfl) rfl rfl rfl (.t (.n 2 4 rfl)) rfl rfl (fun g3 ng3 => ?_)
  refine lv (.plain rfl) rfl rfl (opv_assign rfl (Ev.eq .b)) ?_
  refine awpL_nil ?_
  refine awp_seq ?_
  refine awp_seq ?_
  refine awp_region ?_
  refine lv (.plain rfl) rfl rfl (q_loadn (agT25) rfl (Ev.eq (.t (.n 3 3 rfl))) (.there (.there .here)) rfl) ?_
  refine lv (.plain rfl) rfl rfl (q_call rfl .f Tryd.call8 (.cons (.t .here) .nil) rfl (f8_spec (.mk la ra ka) ha)) ?_
  refine lv (.plain rfl) rfl rfl (opv_not rfl (Ev.eq (.t .here)) rfl) ?_
  refine lv (.plain rfl) rfl rfl (opv_move rfl (Ev.eq (.t .here))) ?_
  refine lsplit (.n 14 2 rfl) (fun h14 => ?_) (fun h14 => ?_)
  ·
   have q14 := h14
   try simp only [zs, List.length_map] at q14
   refine lv (.on rfl rfl .here (congrArg not h14)) rfl rfl (q_loadn (agT25) rfl (Ev.eq (.t (.n 4 6 rfl))) (.there .here) rfl) ?_
   refine lv (.on rfl rfl (.n 16 1 rfl) (congrArg not h14)) rfl rfl (q_call rfl .f Tryd.call8 (.cons (.t .here) .nil) rfl (f8_spec (.mk lb rb kb) hb)) ?_
   refine lv (.on rfl rfl (.n 16 2 rfl) (congrArg not h14)) rfl rfl (opv_not rfl (Ev.eq (.t .here)) rfl) ?_
   refine lv (.plain rfl) rfl rfl (opv_pick_f rfl (Ev.eq (.t (.n 16 3 rfl))) (congrArg not h14) (Ev.eq (.t .here))) ?_
   refine lv (.plain rfl) rfl rfl (opv_move rfl (Ev.eq (.t .here))) ?_
   refine lsplit (.n 18 3 rfl) (fun h18 => ?_) (fun h18 => ?_)
   ·
    have q18 := h18
    try simp only [zs, List.length_map] at q18
    refine lv (.on rfl rfl .here (congrArg not h18)) rfl rfl (q_loadn (agT25) rfl (Ev.eq (.t (.n 5 10 rfl))) .here rfl) ?_
    refine lv (.on rfl rfl (.n 21 1 rfl) (congrArg not h18)) rfl rfl (q_call rfl .f Tryd.call8 (.cons (.t .here) .nil) rfl (f8_spec (.mk lc rc kc) hc)) ?_
    refine lv (.on rfl rfl (.n 21 2 rfl) (congrArg not h18)) rfl rfl (opv_not rfl (Ev.eq (.t .here)) rfl) ?_
    refine lv (.plain rfl) rfl rfl (opv_pick_f rfl (Ev.eq (.t (.n 21 3 rfl))) (congrArg not h18) (Ev.eq (.t .here))) ?_
    refine awpL_nil ?_
    refine psplit (.n 23 2 rfl) (fun h23 => ?_) (fun h23 => ?_)
    ·
     have q23 := h23
     try simp only [zs, List.length_map] at q23
     refine pcond_f (.t .here) (congrArg not h23) ?_
     refine awp_skip ?_
     refine awp_seq ?_
     refine awp_region ?_
     refine lv (.plain rfl) rfl rfl (q_loadn (agT25) rfl (Ev.eq (.t (.n 3 16 rfl))) (.there (.there .here)) rfl) ?_
     refine lv (.plain rfl) rfl rfl (q_loadn (agT25) rfl (Ev.eq (.t (.n 4 16 rfl))) (.there .here) rfl) ?_
     refine lv (.plain rfl) rfl rfl (q_loadn (agT25) rfl (Ev.eq (.t (.n 5 16 rfl))) .here rfl) ?_
     refine lv (.plain rfl) rfl rfl (q_call rfl .f Tryd.call10 (.cons (.t (.n 28 2 rfl)) (.cons (.t (.n 29 1 rfl)) (.cons (.t .here) .nil))) rfl (by have h := f10_spec (.mk la ra ka) (.mk lb rb kb) (.mk lc rc kc) (small_cnt (by simpa using q14)) (small_cnt (by simpa using q18)) (small_cnt (by simpa using q23)); rw [merge_eq] at h; exact h)) ?_
     refine lv (.plain rfl) rfl rfl (opv_move rfl (Ev.eq (.t .here))) ?_
     refine lv (.plain rfl) rfl rfl (q_extract rfl (Ev.eq (.t .here)) .here) ?_
     refine lv (.plain rfl) rfl rfl (q_extract rfl (Ev.eq (.t (.n 27 1 rfl))) (.there .here)) ?_
     refine lv (.plain rfl) rfl rfl (q_extract rfl (Ev.eq (.t (.n 27 2 rfl))) (.there (.there .here))) ?_
     refine l_alloc zT25 (.plain rfl) rfl rfl rfl (fun g4 ng4 => ?_)
     refine l_storen Tryd.sizeOf25 (.plain rfl) rfl rfl (.t .here) (.t (.n 32 3 rfl)) rfl rfl rfl .here ?_
     refine lv (.plain rfl) rfl rfl (opv_assign rfl (Ev.eq (.t (.n 33 2 rfl)))) ?_
     refine lv (.plain rfl) rfl rfl (opv_assign rfl (Ev.eq (.t (.n 34 2 rfl)))) ?_
     refine awpL_nil ?_
     refine awp_seq ?_
     refine awp_region ?_
     refine lv (.plain rfl) rfl rfl (q_loadn (agT25) rfl (Ev.eq (.t (.n 3 27 rfl))) (.there (.there (.there .here))) rfl) ?_
     refine lv (.plain rfl) rfl rfl (q_loadn (agT25) rfl (Ev.eq (.t (.n 4 27 rfl))) (.there (.there .here)) rfl) ?_
     refine lv (.plain rfl) rfl rfl (q_loadn (agT25) rfl (Ev.eq (.t (.n 5 27 rfl))) (.there .here) rfl) ?_
     refine lv (.plain rfl) rfl rfl (q_call rfl .f Tryd.call11 (.cons (.t (.n 36 2 rfl)) (.cons (.t (.n 37 1 rfl)) (.cons (.t .here) .nil))) rfl (f11_spec (.mk la ra ka) (.mk lb rb kb) (.mk lc rc kc) (small_cnt (by simpa using q14)) (small_cnt (by simpa using q18)) (small_cnt (by simpa using q23)))) ?_
     refine lv (.plain rfl) rfl rfl (opv_move rfl (Ev.eq (.t .here))) ?_
     refine lv (.plain rfl) rfl rfl (q_extract rfl (Ev.eq (.t .here)) .here) ?_
     refine lv (.plain rfl) rfl rfl (q_extract rfl (Ev.eq (.t (.n 35 1 rfl))) (.there .here)) ?_
     refine lv (.plain rfl) rfl rfl (q_extract rfl (Ev.eq (.t (.n 35 2 rfl))) (.there (.there .here))) ?_
     refine l_alloc zT25 (.plain rfl) rfl rfl rfl (fun g5 ng5 => ?_)
     refine l_storen Tryd.sizeOf25 (.plain rfl) rfl rfl (.t .here) (.t (.n 40 3 rfl)) rfl rfl rfl .here ?_
     refine lv (.plain rfl) rfl rfl (opv_assign rfl (Ev.eq (.t (.n 41 2 rfl)))) ?_
     refine lv (.plain rfl) rfl rfl (opv_assign rfl (Ev.eq (.t (.n 42 2 rfl)))) ?_
     refine awpL_nil ?_
     refine awp_seq ?_
     refine awp_region ?_
     refine lv (.plain rfl) rfl rfl (q_loadn (agT25) rfl (Ev.eq (.t (.n 7 13 rfl))) (.there .here) rfl) ?_
     refine lv (.plain rfl) rfl rfl (q_loadn (agT25) rfl (Ev.eq (.t (.n 10 3 rfl))) .here rfl) ?_
     refine lv (.plain rfl) rfl rfl (q_call rfl .f Tryd.call12 (.cons (.t (.n 43 1 rfl)) (.cons (.t .here) .nil)) rfl (by have h := f12_spec (mergeR (.mk la ra ka) (.mk lb rb kb) (.mk lc rc kc)).t (mergeR (.mk la ra ka) (.mk lb rb kb) (.mk lc rc kc)).t (rightB_lab (mergeR_right _ _ _)); rw [(sameT_iff _ _).2 rfl] at h; exact h)) ?_
     refine lv (.plain rfl) rfl rfl (opv_move rfl (Ev.eq (.t .here))) ?_
     refine lv (.on rfl rfl .here rfl) rfl rfl (opv_move rfl (Ev.eq (.t (.n 8 16 rfl)))) ?_
     refine lv (.on rfl rfl (.n 46 1 rfl) rfl) rfl rfl (opv_move rfl (Ev.eq (.t (.n 11 6 rfl)))) ?_
     refine lv (.on rfl rfl (.n 46 2 rfl) rfl) rfl rfl (q_call rfl .f Tryd.call13 (.cons (.t (.n 47 1 rfl)) (.cons (.t .here) .nil)) rfl (f13_spec _ _)) ?_
     refine lv (.plain rfl) rfl rfl (opv_pick_t rfl (Ev.eq (.t (.n 46 3 rfl))) rfl (Ev.eq (.t .here))) ?_
     refine lv (.plain rfl) rfl rfl (opv_move rfl (Ev.eq (.t .here))) ?_
     refine lsplit (.n 49 2 rfl) (fun h49 => ?_) (fun h49 => ?_)
     ·
      have q49 := h49
      try simp only [zs, List.length_map] at q49
      refine lv (.on rfl rfl .here h49) rfl rfl (opv_move rfl (Ev.eq (.t (.n 9 20 rfl)))) ?_
      refine lv (.on rfl rfl (.n 51 1 rfl) h49) rfl rfl (opv_move rfl (Ev.eq (.t (.n 12 10 rfl)))) ?_
      refine lv (.on rfl rfl (.n 51 2 rfl) h49) rfl rfl (opv_eql_i rfl (Ev.eq (.t (.n 52 1 rfl))) (Ev.eq (.t .here)) rfl) ?_
      refine lv (.plain rfl) rfl rfl (opv_pick_t rfl (Ev.eq (.t (.n 51 3 rfl))) h49 (Ev.eq (.t .here))) ?_
      refine lv (.plain rfl) rfl rfl (opv_move rfl (Ev.eq (.t .here))) ?_
      refine lsplit (.n 54 2 rfl) (fun h54 => ?_) (fun h54 => ?_)
      ·
       have q54 := h54
       try simp only [zs, List.length_map] at q54
       refine lv (.on rfl rfl .here h54) rfl rfl (q_call rfl .f Tryd.call9 .nil rfl (f9_spec)) ?_
       refine lv (.plain rfl) rfl rfl (opv_pick_t rfl (Ev.eq (.t (.n 56 1 rfl))) h54 (Ev.eq (.t .here))) ?_
       refine lv (.plain rfl) rfl rfl (opv_assign rfl (Ev.eq (.t .here))) ?_
       refine awpL_nil ?_
       refine awp_ret ?_
       refine ret_now (.one (rv_t .here)) (Cast.all _ _) ?_
       first
         | exact ⟨rfl, rfl⟩
         | (exfalso; simp_all; done)
      ·
       have q54 := h54
       try simp only [zs, List.length_map] at q54
       refine lo (.off rfl rfl .here h54) rfl rfl ?_
       refine lv (.plain rfl) rfl rfl (opv_pick_f rfl (Ev.eq (.t (.n 56 1 rfl))) h54 (Ev.eq .b)) ?_
       refine lv (.plain rfl) rfl rfl (opv_assign rfl (Ev.eq (.t .here))) ?_
       refine awpL_nil ?_
       refine awp_ret ?_
       refine ret_now (.one (rv_t .here)) (Cast.all _ _) ?_
       first
         | exact ⟨rfl, rfl⟩
         | (exfalso; simp_all; done)
     ·
      have q49 := h49
      try simp only [zs, List.length_map] at q49
      refine lo (.off rfl rfl .here h49) rfl rfl ?_
      refine lo (.off rfl rfl (.n 51 1 rfl) h49) rfl rfl ?_
      refine lo (.off rfl rfl (.n 51 2 rfl) h49) rfl rfl ?_
      refine lv (.plain rfl) rfl rfl (opv_pick_f rfl (Ev.eq (.t (.n 51 3 rfl))) h49 (Ev.eq .b)) ?_
      refine lv (.plain rfl) rfl rfl (opv_move rfl (Ev.eq (.t .here))) ?_
      refine lo (.off rfl rfl .here rfl) rfl rfl ?_
      refine lv (.plain rfl) rfl rfl (opv_pick_f rfl (Ev.eq (.t (.n 56 1 rfl))) rfl (Ev.eq .b)) ?_
      refine lv (.plain rfl) rfl rfl (opv_assign rfl (Ev.eq (.t .here))) ?_
      refine awpL_nil ?_
      refine awp_ret ?_
      refine ret_now (.one (rv_t .here)) (Cast.all _ _) ?_
      first
        | exact ⟨rfl, rfl⟩
        | (exfalso; simp_all; done)
    ·
     have q23 := h23
     try simp only [zs, List.length_map] at q23
     refine pcond_t (.t .here) (congrArg not h23) ?_
     refine awp_seq ?_
     refine awp_region ?_
     refine lv (.plain rfl) rfl rfl (q_call rfl .f Tryd.call9 .nil rfl (f9_spec)) ?_
     refine lv (.plain rfl) rfl rfl (opv_assign rfl (Ev.eq (.t .here))) ?_
     refine awpL_nil ?_
     refine awp_ret ?_
     refine ret_now (.one (rv_t .here)) (Cast.all _ _) ?_
     first
       | exact ⟨rfl, rfl⟩
       | (exfalso; simp_all; done)
   ·
    have q18 := h18
    try simp only [zs, List.length_map] at q18
    refine lo (.off rfl rfl .here (congrArg not h18)) rfl rfl ?_
    refine lo (.off rfl rfl (.n 21 1 rfl) (congrArg not h18)) rfl rfl ?_
    refine lo (.off rfl rfl (.n 21 2 rfl) (congrArg not h18)) rfl rfl ?_
    refine lv (.plain rfl) rfl rfl (opv_pick_t rfl (Ev.eq (.t (.n 21 3 rfl))) (congrArg not h18) (Ev.eq .b)) ?_
    refine awpL_nil ?_
    refine pcond_t (.t .here) rfl ?_
    refine awp_seq ?_
    refine awp_region ?_
    refine lv (.plain rfl) rfl rfl (q_call rfl .f Tryd.call9 .nil rfl (f9_spec)) ?_
    refine lv (.plain rfl) rfl rfl (opv_assign rfl (Ev.eq (.t .here))) ?_
    refine awpL_nil ?_
    refine awp_ret ?_
    refine ret_now (.one (rv_t .here)) (Cast.all _ _) ?_
    first
      | exact ⟨rfl, rfl⟩
      | (exfalso; simp_all; done)
  ·
   have q14 := h14
   try simp only [zs, List.length_map] at q14
   refine lo (.off rfl rfl .here (congrArg not h14)) rfl rfl ?_
   refine lo (.off rfl rfl (.n 16 1 rfl) (congrArg not h14)) rfl rfl ?_
   refine lo (.off rfl rfl (.n 16 2 rfl) (congrArg not h14)) rfl rfl ?_
   refine lv (.plain rfl) rfl rfl (opv_pick_t rfl (Ev.eq (.t (.n 16 3 rfl))) (congrArg not h14) (Ev.eq .b)) ?_
   refine lv (.plain rfl) rfl rfl (opv_move rfl (Ev.eq (.t .here))) ?_
   refine lo (.off rfl rfl .here rfl) rfl rfl ?_
   refine lo (.off rfl rfl (.n 21 1 rfl) rfl) rfl rfl ?_
   refine lo (.off rfl rfl (.n 21 2 rfl) rfl) rfl rfl ?_
   refine lv (.plain rfl) rfl rfl (opv_pick_t rfl (Ev.eq (.t (.n 21 3 rfl))) rfl (Ev.eq .b)) ?_
   refine awpL_nil ?_
   refine pcond_t (.t .here) rfl ?_
   refine awp_seq ?_
   refine awp_region ?_
   refine lv (.plain rfl) rfl rfl (q_call rfl .f Tryd.call9 .nil rfl (f9_spec)) ?_
   refine lv (.plain rfl) rfl rfl (opv_assign rfl (Ev.eq (.t .here))) ?_
   refine awpL_nil ?_
   refine awp_ret ?_
   refine ret_now (.one (rv_t .here)) (Cast.all _ _) ?_
   first
     | exact ⟨rfl, rfl⟩
     | (exfalso; simp_all; done)
end Go.Proofs.YtjnkbmodcddbkaaDoor
