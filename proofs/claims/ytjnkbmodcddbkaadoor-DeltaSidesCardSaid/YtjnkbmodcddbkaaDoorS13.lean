/- The program's Merge. -/
import Derived.Test.YtjnkbmodcddbkaaDoorTy
import Derived.Test.YtjnkbmodcddbkaaDoorS12
import Derived.Test.YtjnkbmodcddbkaaDoorS6
set_option linter.unusedVariables false
set_option linter.unusedSimpArgs false
namespace Go.Proofs.YtjnkbmodcddbkaaDoor
open Go Go.RowKit
theorem lfrz_p {ro : Option Nat} {P : Program} {ops : Array Oper} {Q : Exit → St → Prop} {n : Nat} {tm : List (Nat × AV)} {h hz h' : H} {ds : List Nat} {os : List Oper} {l : List (Nat × AV)} (p : h.Perm (hz ++ h')) (k : FKeeps hz tm l) (hh : awpL ro P ops Q os ⟨n, l, h', ds⟩) : awpL ro P ops Q os ⟨n, tm, h, ds⟩ := by
  refine awpL_weak (fun X w a hs => ?_) hh
  have hr := frz_rel hs.rel p
  refine ⟨⟨hr, hs.size, fun t => ?_, hs.ds⟩, (Step.refl h w).drop (fun g hg => (keys_perm p).2 (by rw [keys_append]; exact List.mem_append_right _ hg))⟩
  rcases k.look t with h1 | h1
  · show AVR _ _ (look l t) _; rw [h1]; exact .junk _
  · exact frz_val hs.rel p h1 (hs.tm t)
theorem take_snoc {α : Type} {l : List α} {i : Nat} {a : α} (h : l[i]? = some a) : l.take (i + 1) = l.take i ++ [a] := by rw [List.take_add_one, h]; rfl
theorem mergeGo_app : ∀ (l : List Side) (t : Trie) (b : List ByteArray) (s : Side), mergeGo (l ++ [s]) t b = if (metF s.a s.b s.c).2 then (putP (mergeGo l t b).1 s.path (metF s.a s.b s.c).1, (mergeGo l t b).2) else ((mergeGo l t b).1, (mergeGo l t b).2 ++ [s.path])
  | [], t, b, s => by
    simp only [List.nil_append, mergeGo]
  | x :: l, t, b, s => by
    rw [List.cons_append, mergeGo, mergeGo]
    by_cases hx : (metF x.a x.b x.c).2 = true
    · rw [if_pos hx, if_pos hx, mergeGo_app l]
    · rw [if_neg hx, if_neg hx, mergeGo_app l]
theorem mergeGo_len : ∀ (l : List Side) (t : Trie) (b : List ByteArray), (mergeGo l t b).2.length ≤ b.length + l.length
  | [], t, b => by simp [mergeGo]
  | x :: l, t, b => by
    rw [mergeGo]
    split
    · have := mergeGo_len l (putP t x.path (metF x.a x.b x.c).1) b
      simp only [List.length_cons]
      omega
    · have := mergeGo_len l t (b ++ [x.path])
      simp only [List.length_cons, List.length_append, List.length_nil] at this ⊢
      omega
theorem sidesF_len : ∀ (f : Nat) (A B C : List Ent), (sidesF f A B C).length ≤ f
  | 0, _, _, _ => by simp [sidesF]
  | f + 1, A, B, C => by
    rw [sidesF]
    split
    · simp
    · have := sidesF_len f (tlF (minF A B C) A) (tlF (minF A B C) B) (tlF (minF A B C) C)
      simp only [List.length_cons]
      omega
theorem f10_spec (ta tb tc : Trie) (hca : ta.cnt ≤ 100000) (hcb : tb.cnt ≤ 100000) (hcc : tc.cnt ≤ 100000) : FSpec Tryd.prog 10 [aTrie ta, aTrie tb, aTrie tc] (.tup [aTrie (mergeP ta tb tc).t, .d (dStrs (mergeP ta tb tc).bad), .d (.i .i64 (mergeP ta tb tc).e)]) := by
  have hla := entriesR_len ta hca
  have hlb := entriesR_len tb hcb
  have hlc := entriesR_len tc hcc
  obtain ⟨la, ra, ka⟩ := ta
  obtain ⟨lb, rb, kb⟩ := tb
  obtain ⟨lc, rc, kc⟩ := tc
  show FSpec _ _ [.agg [.d (.s la), .d (dRows ra), .d (.sl (encTries ka))], .agg [.d (.s lb), .d (dRows rb), .d (.sl (encTries kb))], .agg [.d (.s lc), .d (dRows rc), .d (.sl (encTries kc))]] _
  refine acalls_of Tryd.func10 rfl Tryd.ntmps10 Tryd.results10 (by simp) ?_
  refine awp_seq ?_
  refine awp_region ?_
  refine l_box (.plain rfl) rfl rfl rfl (.t .here) rfl rfl (fun g1 ng1 => ?_)
  refine l_box (.plain rfl) rfl rfl rfl (.t (.n 1 2 rfl)) rfl rfl (fun g2 ng2 => ?_)
  refine l_box (.plain rfl) rfl rfl rfl (.t (.n 2 4 rfl)) rfl rfl (fun g3 ng3 => ?_)
  refine l_alloc zT25 (.plain rfl) rfl rfl rfl (fun g4 ng4 => ?_)
  refine lv (.plain rfl) rfl rfl (opv_assign rfl (Ev.eq .n)) ?_
  refine lv (.plain rfl) rfl rfl (opv_assign rfl (Ev.eq .i)) ?_
  refine awpL_nil ?_
  refine awp_seq ?_
  refine awp_seq ?_
  refine awp_region ?_
  refine lv (.plain rfl) rfl rfl (q_loadn (agT25) rfl (Ev.eq (.t (.n 3 5 rfl))) (.there (.there (.there .here))) rfl) ?_
  refine lv (.plain rfl) rfl rfl (q_loadn (agT25) rfl (Ev.eq (.t (.n 4 5 rfl))) (.there (.there .here)) rfl) ?_
  refine lv (.plain rfl) rfl rfl (q_loadn (agT25) rfl (Ev.eq (.t (.n 5 5 rfl))) (.there .here) rfl) ?_
  refine l_xd (.plain rfl) rfl rfl (x_buildSlice (cs := [_, _, _, _, _, _, _, _, _]) (rows := [[_, _, _], [_, _, _], [_, _, _]]) slT23 slZ23_3 rfl rfl rfl (.cons (.t (.n 14 2 rfl)) (.cons (.t (.n 15 1 rfl)) (.cons (.t .here) .nil))) rfl rfl rfl rfl rfl) ?_
  rintro _ _ ⟨g5, ng5, rfl, rfl⟩
  refine lv (.plain rfl) rfl rfl (q_call_ro rfl .f fnas_fn Tryd.call32 (.cons (.t .here) .nil) rfl (.cons (.own (xs := encTries [(Trie.mk la ra ka), (Trie.mk lb rb kb), (Trie.mk lc rc kc)]) (.head _) rfl rfl) .nil) (f32_spec [(Trie.mk la ra ka), (Trie.mk lb rb kb), (Trie.mk lc rc kc)]) (by simp [AV.scal])) ?_
  refine lv (.plain rfl) rfl rfl (opv_not rfl (Ev.eq (.t .here)) rfl) ?_
  refine awpL_nil ?_
  refine psplit (.n 18 1 rfl) (fun h18 => ?_) (fun h18 => ?_)
  ·
   have q18 := h18
   try simp only [zs, List.length_map] at q18
   refine pcond_f (.t .here) (congrArg not h18) ?_
   refine awp_skip ?_
   refine awp_seq ?_
   refine awp_region ?_
   refine l_alloc zT25 (.plain rfl) rfl rfl rfl (fun g6 ng6 => ?_)
   refine awpL_nil ?_
   refine awp_seq ?_
   refine awp_region ?_
   refine l_alloc zT28 (.plain rfl) rfl rfl rfl (fun g7 ng7 => ?_)
   refine awpL_nil ?_
   refine awp_seq ?_
   refine awp_seq ?_
   have hall : ([(Trie.mk la ra ka), (Trie.mk lb rb kb), (Trie.mk lc rc kc)] : List Trie).any (fun t => !rightB t) = false := by simpa using q18
   have hra : rightB (Trie.mk la ra ka) = true := by simp at hall; exact hall.1
   have hrb : rightB (Trie.mk lb rb kb) = true := by simp at hall; exact hall.2.1
   have hrc : rightB (Trie.mk lc rc kc) = true := by simp at hall; exact hall.2.2
   refine pvar (cs' := [.d (.s ⟨#[]⟩), .d (dRows []), .d (.sl (encTries []))]) (.there .here) (.cons .refl (.cons .nil (.cons .nil .nil))) ?_
   refine awp_region ?_
   refine lv (.plain rfl) rfl rfl (q_loadn (agT25) rfl (Ev.eq (.t (.n 3 13 rfl))) (.there (.there (.there (.there (.there (.there .here)))))) rfl) ?_
   refine lv (.plain rfl) rfl rfl (q_loadn (agT25) rfl (Ev.eq (.t (.n 4 13 rfl))) (.there (.there (.there (.there (.there .here))))) rfl) ?_
   refine lv (.plain rfl) rfl rfl (q_loadn (agT25) rfl (Ev.eq (.t (.n 5 13 rfl))) (.there (.there (.there (.there .here)))) rfl) ?_
   refine l_xd (.plain rfl) rfl rfl (x_buildSlice (cs := [_, _, _, _, _, _, _, _, _]) (rows := [[_, _, _], [_, _, _], [_, _, _]]) slT23 slZ23_3 rfl rfl rfl (.cons (.t (.n 21 2 rfl)) (.cons (.t (.n 22 1 rfl)) (.cons (.t .here) .nil))) rfl rfl rfl rfl rfl) ?_
   rintro _ _ ⟨g8, ng8, rfl, rfl⟩
   refine lfrz_p (hz := [_]) (List.Perm.refl _) (.cons (.n 3 17 rfl) .refl (.cons (.n 4 16 rfl) .refl (.cons (.n 5 15 rfl) .refl (.cons (.n 6 14 rfl) .refl (.cons (.n 9 5 rfl) .refl (.cons (.n 10 4 rfl) .refl (.cons .here (.own (xs := encTries [(Trie.mk la ra ka), (Trie.mk lb rb kb), (Trie.mk lc rc kc)]) (.head _) rfl rfl) .nil))))))) ?_
   refine lv (.plain rfl) rfl rfl (q_call rfl .f Tryd.call33 (.cons (.t (.n 24 6 rfl)) .nil) rfl (f33_spec [(Trie.mk la ra ka), (Trie.mk lb rb kb), (Trie.mk lc rc kc)])) ?_
   refine awpL_nil ?_
   refine awp_block ?_
   have hcn3 : ∀ t, t ∈ [(Trie.mk la ra ka), (Trie.mk lb rb kb), (Trie.mk lc rc kc)] → t.cnt ≤ 1000000000 := by intro t ht; simp at ht; rcases ht with rfl | rfl | rfl <;> omega
   have hr3 : ∀ t, t ∈ [(Trie.mk la ra ka), (Trie.mk lb rb kb), (Trie.mk lc rc kc)] → rightB t = true := by intro t ht; simp at ht; rcases ht with rfl | rfl | rfl <;> assumption
   refine pweak (.cons (.n 6 4 rfl) (.cons (.n 9 5 rfl) (.cons (.n 10 6 rfl) (.cons .here .nil)))) ?_
   refine awp_range (.t (.n 25 3 rfl)) fnas_d Tryd.call72 (f72_it [(Trie.mk la ra ka), (Trie.mk lb rb kb), (Trie.mk lc rc kc)] (by simp) hcn3 hr3 ((entriesR (Trie.mk la ra ka)).length + (entriesR (Trie.mk lb rb kb)).length + (entriesR (Trie.mk lc rc kc)).length + 1) (by show (entriesR (Trie.mk la ra ka)).length + (entriesR (Trie.mk lb rb kb)).length + (entriesR (Trie.mk lc rc kc)).length < _; omega)) rfl (fun (a : Trie × Acc) => (g7, .var 28 [accV a.2]) :: (g6, .var 25 [.d (.s a.1.label), .d (dRows a.1.rows), .d (.sl (encTries a.1.kids))]) :: (g4, .var 25 [.d (.s ⟨#[]⟩), .nil, .nil]) :: accH 9 1 a.2) (fun j a => ∃ bad, mergeGo ((sidesF ((entriesR (Trie.mk la ra ka)).length + (entriesR (Trie.mk lb rb kb)).length + (entriesR (Trie.mk lc rc kc)).length + 1) (entriesR (Trie.mk la ra ka)) (entriesR (Trie.mk lb rb kb)) (entriesR (Trie.mk lc rc kc))).take j) emptyT [] = (a.1, bad) ∧ a.2.rows = cellsOf encS bad) ((emptyT, Acc.none)) (.cons_cons _ (.cons_cons _ (.cons _ (.cons_cons _ (List.nil_sublist _))))) (⟨[], rfl, rfl⟩) ?_ ?_
   ·
    rintro j x ⟨out, acc⟩ L' dd RR hx ⟨bad, hm, hacc⟩
    obtain ⟨⟨sp, sa, sb, sc⟩, hsd, rfl⟩ := map_get (l := (sidesF ((entriesR (Trie.mk la ra ka)).length + (entriesR (Trie.mk lb rb kb)).length + (entriesR (Trie.mk lc rc kc)).length + 1) (entriesR (Trie.mk la ra ka)) (entriesR (Trie.mk lb rb kb)) (entriesR (Trie.mk lc rc kc)))) hx
    dsimp only at hm hacc
    dsimp only [aSide]
    have hbl := mergeGo_len ((sidesF ((entriesR (Trie.mk la ra ka)).length + (entriesR (Trie.mk lb rb kb)).length + (entriesR (Trie.mk lc rc kc)).length + 1) (entriesR (Trie.mk la ra ka)) (entriesR (Trie.mk lb rb kb)) (entriesR (Trie.mk lc rc kc))).take j) emptyT []
    rw [hm] at hbl
    have hsl := sidesF_len ((entriesR (Trie.mk la ra ka)).length + (entriesR (Trie.mk lb rb kb)).length + (entriesR (Trie.mk lc rc kc)).length + 1) (entriesR (Trie.mk la ra ka)) (entriesR (Trie.mk lb rb kb)) (entriesR (Trie.mk lc rc kc))
    rw [List.length_take] at hbl
    simp only [List.length_nil] at hbl
    refine awp_region ?_
    refine l_alloc zT72 (.plain rfl) rfl rfl rfl (fun g9 ng9 => ?_)
    refine l_storen Tryd.sizeOf72 (.plain rfl) rfl rfl (.t .here) (.t (.n 26 1 rfl)) rfl rfl rfl .here ?_
    refine awpL_nil ?_
    refine ⟨rfl, 1, _, _, rfl, fun R' => ?_⟩
    dsimp only [List.set_cons_succ, List.set_cons_zero]
    refine awp_block ?_
    refine awp_seq ?_
    refine awp_region ?_
    refine lv (.plain rfl) rfl rfl (q_loadn (agT72) rfl (Ev.eq (.t .here)) .here rfl) ?_
    refine lv (.plain rfl) rfl rfl (q_call rfl .f Tryd.call34 (.cons (.t .here) .nil) rfl (f34_spec sp sa sb sc)) ?_
    refine lv (.plain rfl) rfl rfl (opv_move rfl (Ev.eq (.t .here))) ?_
    refine lv (.plain rfl) rfl rfl (q_extract rfl (Ev.eq (.t .here)) .here) ?_
    refine lv (.plain rfl) rfl rfl (q_extract rfl (Ev.eq (.t (.n 27 1 rfl))) (.there .here)) ?_
    refine lv (.plain rfl) rfl rfl (opv_assign rfl (Ev.eq (.t (.n 30 1 rfl)))) ?_
    refine lv (.plain rfl) rfl rfl (opv_assign rfl (Ev.eq (.t (.n 31 1 rfl)))) ?_
    refine awpL_nil ?_
    refine awp_seq ?_
    refine awp_seq ?_
    refine awp_region ?_
    refine lv (.plain rfl) rfl rfl (opv_move rfl (Ev.eq (.t .here))) ?_
    refine lv (.plain rfl) rfl rfl (opv_not rfl (Ev.eq (.t .here)) rfl) ?_
    refine awpL_nil ?_
    refine psplit (.n 31 4 rfl) (fun h31 => ?_) (fun h31 => ?_)
    ·
     have q31 := h31
     try simp only [zs, List.length_map] at q31
     refine pcond_f (.t .here) (congrArg not h31) ?_
     refine awp_skip ?_
     refine awp_region ?_
     refine lv (.plain rfl) rfl rfl (q_loadn (agT25) rfl (Ev.eq (.t (.n 9 12 rfl))) (.there (.there (.there (.there .here)))) rfl) ?_
     refine lv (.plain rfl) rfl rfl (p_field (fldT72_0) rfl (Ev.eq (.t (.n 11 10 rfl))) (off' := 0) rfl) ?_
     refine lv (.plain rfl) rfl rfl (q_load1 (scT9) rfl (Ev.eq (.t .here)) .here .here) ?_
     refine lv (.plain rfl) rfl rfl (opv_move rfl (Ev.eq (.t (.n 12 6 rfl)))) ?_
     refine lv (.plain rfl) rfl rfl (q_call rfl .f Tryd.call24 (.cons (.t (.n 40 3 rfl)) (.cons (.t (.n 42 1 rfl)) (.cons (.t .here) .nil))) rfl (f24_spec out sp (metF sa sb sc).1)) ?_
     refine lv (.plain rfl) rfl rfl (opv_move rfl (Ev.eq (.t .here))) ?_
     refine lv (.plain rfl) rfl rfl (q_extract rfl (Ev.eq (.t .here)) .here) ?_
     refine lv (.plain rfl) rfl rfl (q_extract rfl (Ev.eq (.t (.n 39 1 rfl))) (.there .here)) ?_
     refine l_storen Tryd.sizeOf25 (.plain rfl) rfl rfl (.t (.n 9 20 rfl)) (.t (.n 45 1 rfl)) rfl rfl rfl (.there (.there (.there (.there .here)))) ?_
     refine awpL_nil ?_
     refine ⟨rfl, (putP out sp (metF sa sb sc).1, acc), ⟨bad, by rw [take_snoc hsd, mergeGo_app, hm, if_pos q31], hacc⟩, weak_both .nil (.cons _ (List.Sublist.refl _))⟩
    ·
     have q31 := h31
     try simp only [zs, List.length_map] at q31
     refine pcond_t (.t .here) (congrArg not h31) ?_
     refine awp_seq ?_
     refine awp_region ?_
     refine lv (.plain rfl) rfl rfl (q_load1 (scT28) rfl (Ev.eq (.t (.n 10 13 rfl))) (.there (.there (.there .here))) .here) ?_
     refine lv (.plain rfl) rfl rfl (p_field (fldT72_0) rfl (Ev.eq (.t (.n 11 10 rfl))) (off' := 0) rfl) ?_
     refine lv (.plain rfl) rfl rfl (q_load1 (scT9) rfl (Ev.eq (.t .here)) .here .here) ?_
     refine l_xd (.plain rfl) rfl rfl (x_buildSlice (cs := [_]) (rows := [[_]]) slT28 slZ28_1 rfl rfl rfl (.cons (.t .here) .nil) rfl rfl rfl rfl rfl) ?_
     rintro _ _ ⟨g10, ng10, rfl, rfl⟩
     refine l_xd (.plain rfl) rfl rfl (x_append (acc := acc) (rows := [_]) (hf := [_, _, _, _, _, _, _]) apT28 rfl (.t (.n 34 3 rfl)) (.t .here) rfl (.head _) rfl rfl (by rw [hacc, cellsOf_len]; simp; omega)) ?_
     rintro _ _ ⟨acc11, hacc11, rfl, rfl⟩
     dsimp only [List.cons_append, List.nil_append]
     refine l_store1 Tryd.sizeOf28 (.plain rfl) rfl rfl (.t (.n 10 18 rfl)) (.t .here) (accV_one _) .here (.there (.there (.there (.there .here)))) ?_
     refine awpL_nil ?_
     refine awp_exit ?_
     refine ⟨rfl, (out, acc11), ⟨bad ++ [sp], by rw [take_snoc hsd, mergeGo_app, hm, if_neg (by rw [q31]; simp)], by rw [hacc11, hacc, cellsOf_append]; rfl⟩, weak_both .nil (.cons _ (.cons _ (List.Sublist.refl _)))⟩
   ·
    rintro dd ⟨out, acc⟩ ⟨bad, hm, hacc⟩
    rw [List.length_map] at hm
    have hm : mergeGo (sidesF ((entriesR (Trie.mk la ra ka)).length + (entriesR (Trie.mk lb rb kb)).length + (entriesR (Trie.mk lc rc kc)).length + 1) (entriesR (Trie.mk la ra ka)) (entriesR (Trie.mk lb rb kb)) (entriesR (Trie.mk lc rc kc))) emptyT [] = (out, bad) := by have h1 := hm; rw [show (sidesF _ (eL [(Trie.mk la ra ka), (Trie.mk lb rb kb), (Trie.mk lc rc kc)] 0) (eL [(Trie.mk la ra ka), (Trie.mk lb rb kb), (Trie.mk lc rc kc)] 1) (eL [(Trie.mk la ra ka), (Trie.mk lb rb kb), (Trie.mk lc rc kc)] 2)) = (sidesF ((entriesR (Trie.mk la ra ka)).length + (entriesR (Trie.mk lb rb kb)).length + (entriesR (Trie.mk lc rc kc)).length + 1) (entriesR (Trie.mk la ra ka)) (entriesR (Trie.mk lb rb kb)) (entriesR (Trie.mk lc rc kc))) from rfl, List.take_length] at h1; exact h1
    dsimp only at hacc
    refine awp_seq ?_
    refine awp_seq ?_
    refine awp_region ?_
    refine lv (.plain rfl) rfl rfl (q_load1 (scT28) rfl (Ev.eq (.t (.n 10 2 rfl))) (.there .here) .here) ?_
    refine lv (.plain rfl) rfl rfl (q_len_acc Tryd.underlying28 rfl (Ev.eq (.t .here)) rfl) ?_
    refine lv (.plain rfl) rfl rfl (opv_gtr rfl (Ev.eq (.t .here)) (Ev.eq .i) rfl) ?_
    refine awpL_nil ?_
    refine psplit .here (fun h49 => ?_) (fun h49 => ?_)
    ·
     have q49 := h49
     try simp only [zs, List.length_map] at q49
     refine pcond_t (.t .here) h49 ?_
     refine awp_seq ?_
     refine g_draw mixed (kb_cons (.tail _ (.head _)) kb_nil) (by kernel_rfl) (fuel := 5) rfl rfl ?_
     refine g_v (listed' := bs 5 1) 0 rfl (by kernel_rfl) rfl (fun _ => .plain rfl) rfl (fun _ hK => p_build (bldT25) rfl .nil (by simp [AV.cs, AV.one]) (cs := [_, _, _]) rfl) (kb_cons (.tail _ (.head _)) kb_nil) ?_
     refine g_v (listed' := bs 5 3) 1 rfl (by kernel_rfl) rfl (fun _ => .plain rfl) rfl (fun _ hK => m_load1 (scT28) rfl (Ev.eq (.t (.n 10 6 rfl))) (hK _ (.head _)) .here) (kb_cons (.tail _ (.head _)) kb_nil) ?_
     refine g_x0 (listed' := bs 5 7) 2 (by kernel_rfl) rfl rfl (.plain rfl) rfl (x_storen Tryd.sizeOf25 rfl (.t (.n 6 5 rfl)) (.t (.n 50 1 rfl)) rfl rfl rfl (.there (.there (.there .here)))) ?_
     rintro _ _ rfl
     refine ⟨(kb_cons (.tail _ (.head _)) kb_nil), ?_⟩
     refine g_v (listed' := bs 5 15) 3 rfl (by kernel_rfl) rfl (fun _ => .plain rfl) rfl (fun _ hK => opv_assign rfl (Ev.eq (.t .here))) (kb_cons (.tail _ (.head _)) kb_nil) ?_
     refine g_v (listed' := bs 5 31) 4 rfl (by kernel_rfl) rfl (fun _ => .plain rfl) rfl (fun _ hK => opv_assign rfl (Ev.eq .i)) (kb_cons (.tail _ (.head _)) kb_nil) ?_
     refine g_end (by kernel_rfl) ?_
     refine awp_ret ?_
     refine ret_und1 (.three (rv_c (agT25) (.n 6 7 rfl) (.there (.there .here)) rfl) (rv_t (.n 7 1 rfl)) (rv_t .here)) (Cast.frz0 (.tup (.cons (.agg (.cons .refl (.cons .nil (.cons .nil .nil)))) (.cons (frz_acc (e := 9) (sz := 1) (xs := bad.map encS) (fun q hq => (List.mem_cons_of_mem _ (List.mem_cons_of_mem _ (List.mem_cons_of_mem _ hq)))) (by rw [hacc]; rfl)) (.cons .refl .nil))))) ?_
     have hbn : ¬ bad = [] := by intro h; rw [hacc, h] at q49; simp [cellsOf] at q49
     rw [show mergeP (Trie.mk la ra ka) (Trie.mk lb rb kb) (Trie.mk lc rc kc) = ⟨emptyT, bad, 19⟩ from by unfold mergeP; rw [if_neg (by rw [hra, hrb, hrc]; simp), hm]; exact if_neg hbn]
     exact ⟨rfl, rfl⟩
    ·
     have q49 := h49
     try simp only [zs, List.length_map] at q49
     refine pcond_f (.t .here) h49 ?_
     refine awp_skip ?_
     refine awp_seq ?_
     refine awp_region ?_
     refine lv (.plain rfl) rfl rfl (q_loadn (agT25) rfl (Ev.eq (.t (.n 9 4 rfl))) (.there (.there .here)) rfl) ?_
     refine l_storen Tryd.sizeOf25 (.plain rfl) rfl rfl (.t (.n 6 4 rfl)) (.t .here) rfl rfl rfl (.there (.there (.there .here))) ?_
     refine lv (.plain rfl) rfl rfl (opv_assign rfl (Ev.eq .n)) ?_
     refine lv (.plain rfl) rfl rfl (opv_assign rfl (Ev.eq .i)) ?_
     refine awpL_nil ?_
     refine awp_ret ?_
     refine ret_und1 (.three (rv_c (agT25) (.n 6 6 rfl) (.there (.there .here)) rfl) (rv_t (.n 7 1 rfl)) (rv_t .here)) (Cast.frz0 (.tup (.cons .refl (.cons .nil (.cons .refl .nil))))) ?_
     have hbn : bad = [] := by have h1 : bad.length = 0 := (by rw [hacc, cellsOf_len] at q49; omega); exact List.eq_nil_of_length_eq_zero h1
     rw [show mergeP (Trie.mk la ra ka) (Trie.mk lb rb kb) (Trie.mk lc rc kc) = ⟨out, [], 0⟩ from by unfold mergeP; rw [if_neg (by rw [hra, hrb, hrc]; simp), hm]; exact if_pos hbn]
     exact ⟨rfl, rfl⟩
  ·
   have q18 := h18
   try simp only [zs, List.length_map] at q18
   refine pcond_t (.t .here) (congrArg not h18) ?_
   refine awp_seq ?_
   refine awp_region ?_
   refine lv (.plain rfl) rfl rfl (p_build (bldT25) rfl .nil (by simp [AV.cs, AV.one]) (cs := [_, _, _]) rfl) ?_
   refine l_storen Tryd.sizeOf25 (.plain rfl) rfl rfl (.t (.n 6 9 rfl)) (.t .here) rfl rfl rfl (.there .here) ?_
   refine lv (.plain rfl) rfl rfl (opv_assign rfl (Ev.eq .n)) ?_
   refine lv (.plain rfl) rfl rfl (opv_assign rfl (Ev.eq .i)) ?_
   refine awpL_nil ?_
   refine awp_ret ?_
   refine ret_now (.three (rv_c (agT25) (.n 6 11 rfl) (.there .here) rfl) (rv_t (.n 7 1 rfl)) (rv_t .here)) (Cast.frz0 (.tup (.cons (.agg (.cons .refl (.cons .nil (.cons .nil .nil)))) (.cons .nil (.cons .refl .nil))))) ?_
   rw [show mergeP (Trie.mk la ra ka) (Trie.mk lb rb kb) (Trie.mk lc rc kc) = ⟨emptyT, [], 2⟩ from by unfold mergeP; rw [if_pos (by clear hca hcb hcc hla hlb hlc; cases h1 : rightB (Trie.mk la ra ka) <;> cases h2 : rightB (Trie.mk lb rb kb) <;> cases h3 : rightB (Trie.mk lc rc kc) <;> simp_all)]]
   exact ⟨rfl, rfl⟩
end Go.Proofs.YtjnkbmodcddbkaaDoor
