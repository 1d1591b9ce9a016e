/- Put; Same. -/
import Derived.Test.YtjnkbmodcddbkaaDoorTy
import Derived.Test.YtjnkbmodcddbkaaDoorS9
import Derived.Test.YtjnkbmodcddbkaaDoorS2
set_option linter.unusedVariables false
set_option linter.unusedSimpArgs false
namespace Go.Proofs.YtjnkbmodcddbkaaDoor
open Go Go.RowKit
theorem f24_spec (t : Trie) (p : ByteArray) (rows : List Row) : FSpec Tryd.prog 24 [aTrie t, .d (.s p), .d (dRows rows)] (.tup [aTrie (putP t p rows), .d (.i .i64 (if putOk t p rows then 0 else 2))]) := by
  obtain ⟨l, r, ks⟩ := t
  show FSpec _ _ [.agg [.d (.s l), .d (dRows r), .d (.sl (encTries ks))], .d (.s p), .d (dRows rows)] _
  refine acalls_of Tryd.func24 rfl Tryd.ntmps24 Tryd.results24 (by simp) ?_
  refine awp_seq ?_
  refine awp_region ?_
  refine l_box (.plain rfl) rfl rfl rfl (.t .here) rfl rfl (fun g1 ng1 => ?_)
  refine l_alloc zT25 (.plain rfl) rfl rfl rfl (fun g2 ng2 => ?_)
  refine lv (.plain rfl) rfl rfl (opv_assign rfl (Ev.eq .i)) ?_
  refine awpL_nil ?_
  refine awp_seq ?_
  refine awp_seq ?_
  refine awp_region ?_
  refine lv (.plain rfl) rfl rfl (q_loadn (agT25) rfl (Ev.eq (.t (.n 3 2 rfl))) (.there .here) rfl) ?_
  refine lv (.plain rfl) rfl rfl (q_call rfl .f Tryd.call15 (.cons (.t .here) .nil) rfl (f15_spec (.mk l r ks))) ?_
  refine lv (.plain rfl) rfl rfl (opv_neq_i rfl (Ev.eq (.t .here)) (Ev.eq .i) rfl) ?_
  refine lv (.plain rfl) rfl rfl (opv_move rfl (Ev.eq (.t .here))) ?_
  refine lsplit (.n 10 1 rfl) (fun h10 => ?_) (fun h10 => ?_)
  ·
   have q10 := h10
   try simp only [zs, List.length_map] at q10
   refine lo (.off rfl rfl .here h10) rfl rfl ?_
   refine lo (.off rfl rfl (.n 11 1 rfl) h10) rfl rfl ?_
   refine lo (.off rfl rfl (.n 11 2 rfl) h10) rfl rfl ?_
   refine lv (.plain rfl) rfl rfl (opv_pick_t rfl (Ev.eq (.t (.n 11 3 rfl))) h10 (Ev.eq .b)) ?_
   refine lv (.plain rfl) rfl rfl (opv_move rfl (Ev.eq (.t .here))) ?_
   refine lo (.off rfl rfl .here rfl) rfl rfl ?_
   refine lo (.off rfl rfl (.n 16 1 rfl) rfl) rfl rfl ?_
   refine lo (.off rfl rfl (.n 16 2 rfl) rfl) rfl rfl ?_
   refine lv (.plain rfl) rfl rfl (opv_pick_t rfl (Ev.eq (.t (.n 16 3 rfl))) rfl (Ev.eq .b)) ?_
   refine awpL_nil ?_
   refine pcond_t (.t .here) rfl ?_
   refine awp_seq ?_
   refine awp_region ?_
   refine lv (.plain rfl) rfl rfl (p_build (bldT25) rfl .nil (by simp [AV.cs, AV.one]) (cs := [_, _, _]) rfl) ?_
   refine l_storen Tryd.sizeOf25 (.plain rfl) rfl rfl (.t (.n 6 15 rfl)) (.t .here) rfl rfl rfl .here ?_
   refine lv (.plain rfl) rfl rfl (opv_assign rfl (Ev.eq .i)) ?_
   refine awpL_nil ?_
   refine awp_ret ?_
   refine ret_now (.two (rv_c (agT25) (.n 6 16 rfl) .here rfl) (rv_t .here)) (Cast.frz0 (.tup (.cons (.agg (.cons .refl (.cons .nil (.cons .nil .nil)))) (.cons .refl .nil)))) ?_
   have e : putOk (.mk l r ks) p rows = false := by unfold putOk isPath; simp_all [erI]; try (intro h1 h2; have := q13 h1; omega)
   rw [show putP (.mk l r ks) p rows = emptyT from by unfold putP; rw [e]; rfl, if_neg (by rw [e]; simp)]
   exact ⟨rfl, rfl⟩
  ·
   have q10 := h10
   try simp only [zs, List.length_map] at q10
   refine lv (.on rfl rfl .here h10) rfl rfl (opv_move rfl (Ev.eq (.t (.n 1 8 rfl)))) ?_
   refine lv (.on rfl rfl (.n 11 1 rfl) h10) rfl rfl (q_call rfl .f Tryd.call56 (.cons (.t .here) .nil) rfl (f56_spec _)) ?_
   refine lv (.on rfl rfl (.n 11 2 rfl) h10) rfl rfl (opv_not rfl (Ev.eq (.t .here)) rfl) ?_
   refine lv (.plain rfl) rfl rfl (opv_pick_f rfl (Ev.eq (.t (.n 11 3 rfl))) h10 (Ev.eq (.t .here))) ?_
   refine lv (.plain rfl) rfl rfl (opv_move rfl (Ev.eq (.t .here))) ?_
   refine lsplit (.n 13 3 rfl) (fun h13 => ?_) (fun h13 => ?_)
   ·
    have q13 := h13
    try simp only [zs, List.length_map] at q13
    refine lv (.on rfl rfl .here (congrArg not h13)) rfl rfl (opv_move rfl (Ev.eq (.t (.n 2 14 rfl)))) ?_
    refine lv (.on rfl rfl (.n 16 1 rfl) (congrArg not h13)) rfl rfl (q_call rfl .f Tryd.call57 (.cons (.t .here) .nil) rfl (f57_spec _)) ?_
    refine lv (.on rfl rfl (.n 16 2 rfl) (congrArg not h13)) rfl rfl (opv_neq_i rfl (Ev.eq (.t .here)) (Ev.eq .i) rfl) ?_
    refine lv (.plain rfl) rfl rfl (opv_pick_f rfl (Ev.eq (.t (.n 16 3 rfl))) (congrArg not h13) (Ev.eq (.t .here))) ?_
    refine awpL_nil ?_
    refine psplit (.n 19 1 rfl) (fun h19 => ?_) (fun h19 => ?_)
    ·
     have q19 := h19
     try simp only [zs, List.length_map] at q19
     refine pcond_t (.t .here) h19 ?_
     refine awp_seq ?_
     refine awp_region ?_
     refine lv (.plain rfl) rfl rfl (p_build (bldT25) rfl .nil (by simp [AV.cs, AV.one]) (cs := [_, _, _]) rfl) ?_
     refine l_storen Tryd.sizeOf25 (.plain rfl) rfl rfl (.t (.n 6 15 rfl)) (.t .here) rfl rfl rfl .here ?_
     refine lv (.plain rfl) rfl rfl (opv_assign rfl (Ev.eq .i)) ?_
     refine awpL_nil ?_
     refine awp_ret ?_
     refine ret_now (.two (rv_c (agT25) (.n 6 16 rfl) .here rfl) (rv_t .here)) (Cast.frz0 (.tup (.cons (.agg (.cons .refl (.cons .nil (.cons .nil .nil)))) (.cons .refl .nil)))) ?_
     have e : putOk (.mk l r ks) p rows = false := by unfold putOk isPath; simp_all [erI]; try (intro h1 h2; have := q13 h1; omega)
     rw [show putP (.mk l r ks) p rows = emptyT from by unfold putP; rw [e]; rfl, if_neg (by rw [e]; simp)]
     exact ⟨rfl, rfl⟩
    ·
     have q19 := h19
     try simp only [zs, List.length_map] at q19
     refine pcond_f (.t .here) h19 ?_
     refine awp_skip ?_
     refine awp_seq ?_
     refine awp_region ?_
     refine lv (.plain rfl) rfl rfl (q_loadn (agT25) rfl (Ev.eq (.t (.n 3 15 rfl))) (.there .here) rfl) ?_
     refine lv (.plain rfl) rfl rfl (opv_move rfl (Ev.eq (.t (.n 1 18 rfl)))) ?_
     refine lv (.plain rfl) rfl rfl (opv_move rfl (Ev.eq (.t (.n 2 20 rfl)))) ?_
     have e : putOk (.mk l r ks) p rows = true := by unfold putOk isPath; simp_all [erI]
     obtain ⟨hr0, hr3⟩ : rightB (.mk l r ks) = true ∧ (isPath p && rowsB rows) = true := by simpa only [putOk, Bool.and_eq_true] using e
     obtain ⟨hr1, hr2⟩ : isPath p = true ∧ rowsB rows = true := by simpa only [Bool.and_eq_true] using hr3
     have hps := (of_decide_eq_true hr1).2
     refine lv (.plain rfl) rfl rfl (q_call rfl .f Tryd.call58 (.cons (.t (.n 22 2 rfl)) (.cons (.t (.n 23 1 rfl)) (.cons (.t .here) .nil))) rfl (f58_spec (p.size + 1) l r ks p rows 24 (by omega) (by omega) (by omega) hr2 (rightB_iff.1 hr0).2.2)) ?_
     refine l_storen Tryd.sizeOf25 (.plain rfl) rfl rfl (.t (.n 6 18 rfl)) (.t .here) rfl rfl rfl .here ?_
     refine lv (.plain rfl) rfl rfl (opv_assign rfl (Ev.eq .i)) ?_
     refine awpL_nil ?_
     refine awp_ret ?_
     refine ret_now (.two (rv_c (agT25) (.n 6 19 rfl) .here rfl) (rv_t .here)) (Cast.all _ _) ?_
     rw [show putP (.mk l r ks) p rows = putR (.mk l r ks) p rows from by unfold putP; rw [e]; rfl, if_pos e]
     exact ⟨rfl, rfl⟩
   ·
    have q13 := h13
    try simp only [zs, List.length_map] at q13
    refine lo (.off rfl rfl .here (congrArg not h13)) rfl rfl ?_
    refine lo (.off rfl rfl (.n 16 1 rfl) (congrArg not h13)) rfl rfl ?_
    refine lo (.off rfl rfl (.n 16 2 rfl) (congrArg not h13)) rfl rfl ?_
    refine lv (.plain rfl) rfl rfl (opv_pick_t rfl (Ev.eq (.t (.n 16 3 rfl))) (congrArg not h13) (Ev.eq .b)) ?_
    refine awpL_nil ?_
    refine pcond_t (.t .here) rfl ?_
    refine awp_seq ?_
    refine awp_region ?_
    refine lv (.plain rfl) rfl rfl (p_build (bldT25) rfl .nil (by simp [AV.cs, AV.one]) (cs := [_, _, _]) rfl) ?_
    refine l_storen Tryd.sizeOf25 (.plain rfl) rfl rfl (.t (.n 6 15 rfl)) (.t .here) rfl rfl rfl .here ?_
    refine lv (.plain rfl) rfl rfl (opv_assign rfl (Ev.eq .i)) ?_
    refine awpL_nil ?_
    refine awp_ret ?_
    refine ret_now (.two (rv_c (agT25) (.n 6 16 rfl) .here rfl) (rv_t .here)) (Cast.frz0 (.tup (.cons (.agg (.cons .refl (.cons .nil (.cons .nil .nil)))) (.cons .refl .nil)))) ?_
    have e : putOk (.mk l r ks) p rows = false := by unfold putOk isPath; simp_all [erI]; try (intro h1 h2; have := q13 h1; omega)
    rw [show putP (.mk l r ks) p rows = emptyT from by unfold putP; rw [e]; rfl, if_neg (by rw [e]; simp)]
    exact ⟨rfl, rfl⟩
mutual
def sameT : Trie → Trie → Bool
  | .mk l r ks, .mk l' r' ks' => decide (l = l') && (decide (r = r') && sameL ks ks')
def sameL : List Trie → List Trie → Bool
  | [], [] => true
  | t :: r, u :: s => sameT t u && sameL r s
  | _, _ => false
end
theorem sameL_len : ∀ {a b : List Trie}, a.length ≠ b.length → sameL a b = false
  | [], [], h => absurd rfl h
  | [], _ :: _, _ => rfl
  | _ :: _, [], _ => rfl
  | t :: a, u :: b, h => by rw [sameL, sameL_len (a := a) (b := b) (by simpa using h)]; simp
mutual
theorem sameT_iff : ∀ (t u : Trie), sameT t u = true ↔ t = u
  | .mk l r ks, .mk l' r' ks' => by
    rw [sameT, Bool.and_eq_true, Bool.and_eq_true, sameL_iff ks ks', decide_eq_true_eq, decide_eq_true_eq]
    constructor
    · rintro ⟨rfl, rfl, rfl⟩; rfl
    · intro h; injection h with h1 h2 h3; exact ⟨h1, h2, h3⟩
theorem sameL_iff : ∀ (a b : List Trie), sameL a b = true ↔ a = b
  | [], [] => by simp [sameL]
  | [], _ :: _ => by simp [sameL]
  | _ :: _, [] => by simp [sameL]
  | t :: a, u :: b => by rw [sameL, Bool.and_eq_true, sameT_iff t u, sameL_iff a b, List.cons.injEq]
end
theorem kidsB_labs : ∀ (ks : List Trie) (left first : Int), left ≤ 1000000 → -1 ≤ first → first ≤ 255 → kidsB ks left first = true → labs ks
  | [], _, _, _, _, _, _ => trivial
  | .mk l r kk :: ks, left, first, h0, h1, h2, h => by
    have hh := h
    simp only [kidsB, Bool.and_eq_true, decide_eq_true_eq] at hh
    obtain ⟨⟨hn, hf⟩, hr⟩ := hh
    obtain ⟨n1, n2, n3, n4⟩ := nodeB_iff.1 hn
    have hb := bt_range (Trie.mk l r kk).label 0
    have hkl := kidsB_len _ _ _ (by omega) (by omega) n4
    have hrl : r.length ≤ 64 := by
      unfold rowsB at n2
      simp only [Bool.and_eq_true, decide_eq_true_eq] at n2
      exact n2.1
    simp only [labs, Trie.lab]
    exact ⟨⟨by omega, by omega, by omega, kidsB_labs kk _ _ (by omega) (by omega) (by omega) n4⟩, kidsB_labs ks left _ h0 (by omega) (by omega) hr⟩
theorem rightB_lab {t : Trie} (h : rightB t = true) : t.lab := by
  obtain ⟨l, r, ks⟩ := t
  obtain ⟨rfl, rfl, h3⟩ := rightB_iff.1 h
  have hkl := kidsB_len _ _ _ (by omega) (by omega) h3
  simp only [Trie.lab]
  exact ⟨by decide, by simp, by omega, kidsB_labs ks 24 (-1) (by omega) (by omega) (by omega) h3⟩
theorem f12_spec : ∀ (t u : Trie), t.lab → FSpec Tryd.prog 12 [aTrie t, aTrie u] (.d (.b (sameT t u))) := by
  intro t
  induction t using Trie.ind with
  | h l r ks ih =>
  intro u hlab
  obtain ⟨l', r', ks'⟩ := u
  simp only [Trie.lab] at hlab
  obtain ⟨hlab1, hlab2, hlab3, hlab4⟩ := hlab
  simp only [aTrie, Trie.label, Trie.rows, Trie.kids]
  refine acalls_of Tryd.func12 rfl Tryd.ntmps12 Tryd.results12 (by simp) ?_
  refine awp_seq ?_
  refine awp_region ?_
  refine l_box (.plain rfl) rfl rfl rfl (.t .here) rfl rfl (fun g1 ng1 => ?_)
  refine l_box (.plain rfl) rfl rfl rfl (.t (.n 1 2 rfl)) rfl rfl (fun g2 ng2 => ?_)
  refine lv (.plain rfl) rfl rfl (opv_assign rfl (Ev.eq .b)) ?_
  refine awpL_nil ?_
  refine awp_seq ?_
  refine awp_seq ?_
  refine awp_region ?_
  refine lv (.plain rfl) rfl rfl (p_field (fldT25_0) rfl (Ev.eq (.t (.n 2 2 rfl))) (off' := 0) rfl) ?_
  refine lv (.plain rfl) rfl rfl (q_load1 (scT9) rfl (Ev.eq (.t .here)) (.there .here) .here) ?_
  refine lv (.plain rfl) rfl rfl (p_field (fldT25_0) rfl (Ev.eq (.t (.n 3 3 rfl))) (off' := 0) rfl) ?_
  refine lv (.plain rfl) rfl rfl (q_load1 (scT9) rfl (Ev.eq (.t .here)) .here .here) ?_
  refine lv (.plain rfl) rfl rfl (opv_neq_s rfl (Ev.eq (.t (.n 7 2 rfl))) (Ev.eq (.t .here)) rfl) ?_
  refine lv (.plain rfl) rfl rfl (opv_move rfl (Ev.eq (.t .here))) ?_
  refine lsplit (.n 10 1 rfl) (fun h10 => ?_) (fun h10 => ?_)
  ·
   have q10 := h10
   try simp only [zs, List.length_map, encTries_len, bl_inj] at q10
   refine lo (.off rfl rfl .here h10) rfl rfl ?_
   refine lo (.off rfl rfl (.n 11 1 rfl) h10) rfl rfl ?_
   refine lo (.off rfl rfl (.n 11 2 rfl) h10) rfl rfl ?_
   refine lo (.off rfl rfl (.n 11 3 rfl) h10) rfl rfl ?_
   refine lo (.off rfl rfl (.n 11 4 rfl) h10) rfl rfl ?_
   refine lo (.off rfl rfl (.n 11 5 rfl) h10) rfl rfl ?_
   refine lv (.plain rfl) rfl rfl (opv_pick_t rfl (Ev.eq (.t (.n 11 6 rfl))) h10 (Ev.eq .b)) ?_
   refine lv (.plain rfl) rfl rfl (opv_move rfl (Ev.eq (.t .here))) ?_
   refine lo (.off rfl rfl .here rfl) rfl rfl ?_
   refine lo (.off rfl rfl (.n 19 1 rfl) rfl) rfl rfl ?_
   refine lo (.off rfl rfl (.n 19 2 rfl) rfl) rfl rfl ?_
   refine lo (.off rfl rfl (.n 19 3 rfl) rfl) rfl rfl ?_
   refine lo (.off rfl rfl (.n 19 4 rfl) rfl) rfl rfl ?_
   refine lo (.off rfl rfl (.n 19 5 rfl) rfl) rfl rfl ?_
   refine lo (.off rfl rfl (.n 19 6 rfl) rfl) rfl rfl ?_
   refine lv (.plain rfl) rfl rfl (opv_pick_t rfl (Ev.eq (.t (.n 19 7 rfl))) rfl (Ev.eq .b)) ?_
   refine awpL_nil ?_
   refine pcond_t (.t .here) rfl ?_
   refine awp_seq ?_
   refine awp_region ?_
   refine lv (.plain rfl) rfl rfl (opv_assign rfl (Ev.eq .b)) ?_
   refine awpL_nil ?_
   refine awp_ret ?_
   refine ret_now (.one (rv_t .here)) (Cast.all _ _) ?_
   refine ⟨congrArg (fun x => AV.d (D.b x)) ?_, rfl⟩
   rw [sameT]
   first | (rw [sameL_len (by omega)]; simp) | (simp_all; done) | (simp_all; omega)
  ·
   have q10 := h10
   try simp only [zs, List.length_map, encTries_len, bl_inj] at q10
   refine lv (.on rfl rfl .here h10) rfl rfl (p_field (fldT25_1) rfl (Ev.eq (.t (.n 2 8 rfl))) (off' := 1) rfl) ?_
   refine lv (.on rfl rfl (.n 11 1 rfl) h10) rfl rfl (q_load1 (scT22) rfl (Ev.eq (.t .here)) (.there .here) (.there .here)) ?_
   refine lv (.on rfl rfl (.n 11 2 rfl) h10) rfl rfl (p_field (fldT25_1) rfl (Ev.eq (.t (.n 3 9 rfl))) (off' := 1) rfl) ?_
   refine lv (.on rfl rfl (.n 11 3 rfl) h10) rfl rfl (q_load1 (scT22) rfl (Ev.eq (.t .here)) .here (.there .here)) ?_
   refine lv (.on rfl rfl (.n 11 4 rfl) h10) rfl rfl (q_call rfl .f Tryd.call26 (.cons (.t (.n 13 2 rfl)) (.cons (.t .here) .nil)) rfl (f26_spec _ _)) ?_
   refine lv (.on rfl rfl (.n 11 5 rfl) h10) rfl rfl (opv_not rfl (Ev.eq (.t .here)) rfl) ?_
   refine lv (.plain rfl) rfl rfl (opv_pick_f rfl (Ev.eq (.t (.n 11 6 rfl))) h10 (Ev.eq (.t .here))) ?_
   refine lv (.plain rfl) rfl rfl (opv_move rfl (Ev.eq (.t .here))) ?_
   refine lsplit (.n 16 3 rfl) (fun h16 => ?_) (fun h16 => ?_)
   ·
    have q16 := h16
    try simp only [zs, List.length_map, encTries_len, bl_inj] at q16
    refine lv (.on rfl rfl .here (congrArg not h16)) rfl rfl (p_field (fldT25_2) rfl (Ev.eq (.t (.n 2 16 rfl))) (off' := 2) rfl) ?_
    refine lv (.on rfl rfl (.n 19 1 rfl) (congrArg not h16)) rfl rfl (q_load1 (scT23) rfl (Ev.eq (.t .here)) (.there .here) (.there (.there .here))) ?_
    refine lv (.on rfl rfl (.n 19 2 rfl) (congrArg not h16)) rfl rfl (opv_len_sl Tryd.underlying23 rfl (Ev.eq (.t .here)) rfl) ?_
    refine lv (.on rfl rfl (.n 19 3 rfl) (congrArg not h16)) rfl rfl (p_field (fldT25_2) rfl (Ev.eq (.t (.n 3 18 rfl))) (off' := 2) rfl) ?_
    refine lv (.on rfl rfl (.n 19 4 rfl) (congrArg not h16)) rfl rfl (q_load1 (scT23) rfl (Ev.eq (.t .here)) .here (.there (.there .here))) ?_
    refine lv (.on rfl rfl (.n 19 5 rfl) (congrArg not h16)) rfl rfl (opv_len_sl Tryd.underlying23 rfl (Ev.eq (.t .here)) rfl) ?_
    refine lv (.on rfl rfl (.n 19 6 rfl) (congrArg not h16)) rfl rfl (opv_neq_i rfl (Ev.eq (.t (.n 22 3 rfl))) (Ev.eq (.t .here)) rfl) ?_
    refine lv (.plain rfl) rfl rfl (opv_pick_f rfl (Ev.eq (.t (.n 19 7 rfl))) (congrArg not h16) (Ev.eq (.t .here))) ?_
    refine awpL_nil ?_
    refine psplit (.n 26 1 rfl) (fun h26 => ?_) (fun h26 => ?_)
    ·
     have q26 := h26
     try simp only [zs, List.length_map, encTries_len, bl_inj] at q26
     refine pcond_t (.t .here) h26 ?_
     refine awp_seq ?_
     refine awp_region ?_
     refine lv (.plain rfl) rfl rfl (opv_assign rfl (Ev.eq .b)) ?_
     refine awpL_nil ?_
     refine awp_ret ?_
     refine ret_now (.one (rv_t .here)) (Cast.all _ _) ?_
     refine ⟨congrArg (fun x => AV.d (D.b x)) ?_, rfl⟩
     rw [sameT]
     first | (rw [sameL_len (by omega)]; simp) | (simp_all; done) | (simp_all; omega)
    ·
     have q26 := h26
     try simp only [zs, List.length_map, encTries_len, bl_inj] at q26
     refine pcond_f (.t .here) h26 ?_
     refine awp_skip ?_
     refine awp_seq ?_
     refine awp_seq ?_
     refine awp_region ?_
     refine lv (.plain rfl) rfl rfl (opv_assign rfl (Ev.eq .i)) ?_
     refine awpL_nil ?_
     refine awp_block ?_
     have hll : ks.length = ks'.length := by omega
     refine ploop (fun (i : Nat) => ⟨47, [(2, .ptr g1 0), (3, .ptr g2 0), (5, .d (.i .i64 (i : Int)))], [(g2, .var 25 [.d (.s l'), .d (dRows r'), .d (.sl (encTries ks'))]), (g1, .var 25 [.d (.s l), .d (dRows r), .d (.sl (encTries ks))])], []⟩) (fun i => i ≤ ks.length ∧ sameL (ks.drop i) (ks'.drop i) = sameL ks ks') (fun i => ks.length - i) (0) (weak_both (.ce (.n 2 25 rfl) (by first | rfl | (simp; done) | (simp; omega)) (.ce (.n 3 24 rfl) (by first | rfl | (simp; done) | (simp; omega)) (.ce .here (by first | rfl | (simp; done) | (simp; omega)) .nil))) (List.Sublist.refl _)) (⟨by omega, rfl⟩) ?_
     rintro i ⟨hi, hEQ⟩
     refine awp_seq ?_
     refine awp_seq ?_
     refine awp_region ?_
     refine lv (.plain rfl) rfl rfl (opv_move rfl (Ev.eq (.t (.n 5 2 rfl)))) ?_
     refine lv (.plain rfl) rfl rfl (p_field (fldT25_2) rfl (Ev.eq (.t (.n 2 1 rfl))) (off' := 2) rfl) ?_
     refine lv (.plain rfl) rfl rfl (q_load1 (scT23) rfl (Ev.eq (.t .here)) (.there .here) (.there (.there .here))) ?_
     refine lv (.plain rfl) rfl rfl (opv_len_sl Tryd.underlying23 rfl (Ev.eq (.t .here)) rfl) ?_
     refine lv (.plain rfl) rfl rfl (opv_lss rfl (Ev.eq (.t (.n 28 3 rfl))) (Ev.eq (.t .here)) rfl) ?_
     refine awpL_nil ?_
     refine psplit .here (fun h32 => ?_) (fun h32 => ?_)
     ·
      have q32 := h32
      try simp only [zs, List.length_map, encTries_len, bl_inj] at q32
      refine pcond_t (.t .here) h32 ?_
      refine awp_skip ?_
      refine awp_seq ?_
      refine awp_block ?_
      refine awp_seq ?_
      refine g_draw mixed (kb_cons (.head _) (kb_cons (.tail _ (.head _)) kb_nil)) (by kernel_rfl) (fuel := 12) rfl rfl ?_
      refine g_v (listed' := bs 12 1) 0 rfl (by kernel_rfl) rfl (fun _ => .plain rfl) rfl (fun _ hK => p_field (fldT25_2) rfl (Ev.eq (.t (.n 2 5 rfl))) (off' := 2) rfl) (kb_cons (.head _) (kb_cons (.tail _ (.head _)) kb_nil)) ?_
      refine g_v (listed' := bs 12 3) 1 rfl (by kernel_rfl) rfl (fun _ => .plain rfl) rfl (fun _ hK => m_load1 (scT23) rfl (Ev.eq (.t .here)) (hK _ (.tail _ (.head _))) (.there (.there .here))) (kb_cons (.head _) (kb_cons (.tail _ (.head _)) kb_nil)) ?_
      refine g_v (listed' := bs 12 7) 2 rfl (by kernel_rfl) rfl (fun _ => .plain rfl) rfl (fun _ hK => opv_move rfl (Ev.eq (.t (.n 5 9 rfl)))) (kb_cons (.head _) (kb_cons (.tail _ (.head _)) kb_nil)) ?_
      obtain ⟨x, hx⟩ := some_at (l := ks) (i := i) (by omega)
      obtain ⟨y, hy⟩ := some_at (l := ks') (i := i) (by omega)
      obtain ⟨xl, xr, xk⟩ := x
      obtain ⟨yl, yr, yk⟩ := y
      refine g_v (listed' := bs 12 15) 3 rfl (by kernel_rfl) rfl (fun _ => .plain rfl) rfl (fun _ hK => p_index (slT23) rfl (Ev.eq (.t (.n 36 1 rfl))) (Ev.eq (.t .here)) (by omega) (by first | assumption | exact map_at (by assumption) | exact encTries_at (by assumption)) rfl) (kb_cons (.head _) (kb_cons (.tail _ (.head _)) kb_nil)) ?_
      refine g_v (listed' := bs 12 31) 4 rfl (by kernel_rfl) rfl (fun _ => .plain rfl) rfl (fun _ hK => p_loadnf (agT25) rfl (Ev.eq (.t .here)) (Nat.le_of_ble_eq_true rfl) rfl) (kb_cons (.head _) (kb_cons (.tail _ (.head _)) kb_nil)) ?_
      refine g_v (listed' := bs 12 63) 5 rfl (by kernel_rfl) rfl (fun _ => .plain rfl) rfl (fun _ hK => p_field (fldT25_2) rfl (Ev.eq (.t (.n 3 11 rfl))) (off' := 2) rfl) (kb_cons (.head _) (kb_cons (.tail _ (.head _)) kb_nil)) ?_
      refine g_v (listed' := bs 12 127) 6 rfl (by kernel_rfl) rfl (fun _ => .plain rfl) rfl (fun _ hK => m_load1 (scT23) rfl (Ev.eq (.t .here)) (hK _ (.head _)) (.there (.there .here))) (kb_cons (.head _) (kb_cons (.tail _ (.head _)) kb_nil)) ?_
      refine g_v (listed' := bs 12 255) 7 rfl (by kernel_rfl) rfl (fun _ => .plain rfl) rfl (fun _ hK => opv_move rfl (Ev.eq (.t (.n 5 14 rfl)))) (kb_cons (.head _) (kb_cons (.tail _ (.head _)) kb_nil)) ?_
      refine g_v (listed' := bs 12 511) 8 rfl (by kernel_rfl) rfl (fun _ => .plain rfl) rfl (fun _ hK => p_index (slT23) rfl (Ev.eq (.t (.n 41 1 rfl))) (Ev.eq (.t .here)) (by omega) (by first | assumption | exact map_at (by assumption) | exact encTries_at (by assumption)) rfl) (kb_cons (.head _) (kb_cons (.tail _ (.head _)) kb_nil)) ?_
      refine g_v (listed' := bs 12 1023) 9 rfl (by kernel_rfl) rfl (fun _ => .plain rfl) rfl (fun _ hK => p_loadnf (agT25) rfl (Ev.eq (.t .here)) (Nat.le_of_ble_eq_true rfl) rfl) (kb_cons (.head _) (kb_cons (.tail _ (.head _)) kb_nil)) ?_
      refine g_v (listed' := bs 12 2047) 10 rfl (by kernel_rfl) rfl (fun _ => .plain rfl) rfl (fun _ hK => q_call rfl .f Tryd.call12 (.cons (.t (.n 39 5 rfl)) (.cons (.t .here) .nil)) rfl (ih (.mk xl xr xk) (List.mem_of_getElem? hx) (.mk yl yr yk) (labs_mem hlab4 (List.mem_of_getElem? hx)))) (kb_cons (.head _) (kb_cons (.tail _ (.head _)) kb_nil)) ?_
      refine g_v (listed' := bs 12 4095) 11 rfl (by kernel_rfl) rfl (fun _ => .plain rfl) rfl (fun _ hK => opv_not rfl (Ev.eq (.t .here)) rfl) (kb_cons (.head _) (kb_cons (.tail _ (.head _)) kb_nil)) ?_
      refine g_end (by kernel_rfl) ?_
      refine psplit (.n 45 1 rfl) (fun h45 => ?_) (fun h45 => ?_)
      ·
       have q45 := h45
       try simp only [zs, List.length_map, encTries_len, bl_inj] at q45
       refine pcond_f (.t .here) (congrArg not h45) ?_
       refine awp_skip ?_
       refine awp_region ?_
       refine lv (.plain rfl) rfl rfl (opv_move rfl (Ev.eq (.t (.n 5 19 rfl)))) ?_
       refine lv (.plain rfl) rfl rfl (opv_add rfl (Ev.eq (.t .here)) (Ev.eq .i) (wr64 (by omega) (by omega)) rfl) ?_
       refine lv (.plain rfl) rfl rfl (opv_assign rfl (Ev.eq (.t .here))) ?_
       refine awpL_nil ?_
       refine ⟨i + 1, by omega, ⟨by omega, by rw [drop_cons hx, drop_cons hy, sameL] at hEQ; simp_all⟩, weak_both (.ce (.n 2 20 rfl) (by first | rfl | (simp; done) | (simp; omega)) (.ce (.n 3 21 rfl) (by first | rfl | (simp; done) | (simp; omega)) (.ce .here (by first | rfl | (simp; done) | (simp; omega)) .nil))) (List.Sublist.refl _)⟩
      ·
       have q45 := h45
       try simp only [zs, List.length_map, encTries_len, bl_inj] at q45
       refine pcond_t (.t .here) (congrArg not h45) ?_
       refine awp_seq ?_
       refine awp_region ?_
       refine lv (.plain rfl) rfl rfl (opv_assign rfl (Ev.eq .b)) ?_
       refine awpL_nil ?_
       refine awp_ret ?_
       refine ret_now (.one (rv_t .here)) (Cast.all _ _) ?_
       refine ⟨congrArg (fun x => AV.d (D.b x)) ?_, rfl⟩
       rw [sameT]
       rw [drop_cons hx, drop_cons hy, sameL] at hEQ
       rw [← hEQ]
       simp_all
     ·
      have q32 := h32
      try simp only [zs, List.length_map, encTries_len, bl_inj] at q32
      refine pcond_f (.t .here) h32 ?_
      refine awp_exit ?_
      refine awp_seq ?_
      refine awp_region ?_
      refine lv (.plain rfl) rfl rfl (opv_assign rfl (Ev.eq .b)) ?_
      refine awpL_nil ?_
      refine awp_ret ?_
      refine ret_now (.one (rv_t .here)) (Cast.all _ _) ?_
      refine ⟨congrArg (fun x => AV.d (D.b x)) ?_, rfl⟩
      rw [sameT]
      obtain rfl : i = ks.length := by omega
      rw [List.drop_length, hll, List.drop_length, sameL] at hEQ
      rw [← hEQ]
      simp_all
   ·
    have q16 := h16
    try simp only [zs, List.length_map, encTries_len, bl_inj] at q16
    refine lo (.off rfl rfl .here (congrArg not h16)) rfl rfl ?_
    refine lo (.off rfl rfl (.n 19 1 rfl) (congrArg not h16)) rfl rfl ?_
    refine lo (.off rfl rfl (.n 19 2 rfl) (congrArg not h16)) rfl rfl ?_
    refine lo (.off rfl rfl (.n 19 3 rfl) (congrArg not h16)) rfl rfl ?_
    refine lo (.off rfl rfl (.n 19 4 rfl) (congrArg not h16)) rfl rfl ?_
    refine lo (.off rfl rfl (.n 19 5 rfl) (congrArg not h16)) rfl rfl ?_
    refine lo (.off rfl rfl (.n 19 6 rfl) (congrArg not h16)) rfl rfl ?_
    refine lv (.plain rfl) rfl rfl (opv_pick_t rfl (Ev.eq (.t (.n 19 7 rfl))) (congrArg not h16) (Ev.eq .b)) ?_
    refine awpL_nil ?_
    refine pcond_t (.t .here) rfl ?_
    refine awp_seq ?_
    refine awp_region ?_
    refine lv (.plain rfl) rfl rfl (opv_assign rfl (Ev.eq .b)) ?_
    refine awpL_nil ?_
    refine awp_ret ?_
    refine ret_now (.one (rv_t .here)) (Cast.all _ _) ?_
    refine ⟨congrArg (fun x => AV.d (D.b x)) ?_, rfl⟩
    rw [sameT]
    first | (rw [sameL_len (by omega)]; simp) | (simp_all; done) | (simp_all; omega)
theorem entriesR_len (t : Trie) (h : t.cnt ≤ 100000) : (entriesR t).length ≤ 100000 := by
  unfold entriesR
  split
  · have := ents_len t ⟨#[]⟩; omega
  · simp
end Go.Proofs.YtjnkbmodcddbkaaDoor
