/- Rows put under a path. -/
import Derived.Test.YtjnkbmodcddbkaaDoorTy
import Derived.Test.YtjnkbmodcddbkaaDoorS8
import Derived.Test.YtjnkbmodcddbkaaDoorL3
import Derived.Test.YtjnkbmodcddbkaaDoorAw11
set_option linter.unusedVariables false
set_option linter.unusedSimpArgs false
namespace Go.Proofs.YtjnkbmodcddbkaaDoor
open Go Go.RowKit
theorem cells_row {ks : List Trie} {i : Nat} {kid : Trie} (h : ks[i]? = some kid) : (cellsOf encTrie ks)[i]? = some ((encTrie kid).map .d) := by simp [cellsOf, h]
theorem cells_set {ks : List Trie} {i : Nat} {kid j : Trie} (h : ks[i]? = some kid) : (cellsOf encTrie ks).set i ((encTrie j).map .d) = cellsOf encTrie (ks.take i ++ (j :: ks.drop (i + 1))) := by
  rw [set_split (cells_row h)]
  simp [cellsOf]
theorem cells_del {ks : List Trie} {i : Nat} {c : List AV} (hi : i < ks.length) : ((cellsOf encTrie ks).set i c).take i ++ ((cellsOf encTrie ks).set i c).drop (i + 1) = cellsOf encTrie (ks.take i ++ ks.drop (i + 1)) := by
  rw [List.take_set_of_le (Nat.le_refl _), List.drop_set_of_lt (by omega)]
  simp [cellsOf]
theorem cells_ins {ks : List Trie} {i : Nat} {j : Trie} : (cellsOf encTrie ks).take i ++ [(encTrie j).map .d] ++ (cellsOf encTrie ks).drop i = cellsOf encTrie (ks.take i ++ (j :: ks.drop i)) := by simp [cellsOf]
theorem cells_one {ks : List Trie} : ∀ r, r ∈ cellsOf encTrie ks → (∀ x, x ∈ r → x.one = true) ∧ r.length = 3 := by
  intro r hr
  simp only [cellsOf, List.map_map, List.mem_map, Function.comp] at hr
  obtain ⟨t, _, rfl⟩ := hr
  refine ⟨fun x hx => ?_, by simp [encTrie_len]⟩
  obtain ⟨d, _, rfl⟩ := List.mem_map.1 hx
  rfl
theorem f88_acc (acc : Acc) (row : List AV) (g2 i : Nat) (hi : i ≤ acc.rows.length) (hb : acc.rows.length ≤ 1000000000) (h1 : ∀ r, r ∈ acc.rows → (∀ x, x ∈ r → x.one = true) ∧ r.length = 3) (hr1 : ∀ x, x ∈ row → x.one = true) (hr2 : row.length = 3) :
    ACalls Tryd.prog 88 [accV acc, .d (.i .i64 (i : Int)), .own g2 0 1 1] ((g2, .arr 25 3 [row] 1) :: accH 25 3 acc) (fun r h' => ∃ a, a.rows = acc.rows.take i ++ [row] ++ acc.rows.drop i ∧ r = accV a ∧ h' = accH 25 3 a) := by
  cases acc with
  | none =>
    obtain rfl : i = 0 := by simpa [Acc.rows] using hi
    exact f88_nil row g2 hr1 hr2
  | «at» g cap rows =>
    intro X w vals hr hv
    obtain ⟨cs, _, h2, h3, h4, h5, h6⟩ := hr.blk g _ (.tail _ (.head _))
    have hne : g2 ≠ g := fun e => by
      have := hr.nodup
      simp [keys, accH] at this
      exact this e
    exact f88_at rows row g g2 cap i hne hi h4 hb (fun r hr => (h1 r hr).1) (fun r hr => (h1 r hr).2) hr1 hr2 X w vals hr hv
theorem f92_set (rows : List (List AV)) (c : List AV) (g cap i n : Nat) (hn : rows.length = n) (hi : i < n) (hb : n ≤ 1000000000) (h1 : ∀ r, r ∈ rows → (∀ x, x ∈ r → x.one = true) ∧ r.length = 3) (hc1 : ∀ x, x ∈ c → x.one = true) (hc2 : c.length = 3) :
    ACalls Tryd.prog 92 [.own g 0 n cap, .d (.i .i64 (i : Int)), .d (.i .i64 ((i : Int) + 1))] [(g, .arr 25 3 (rows.set i c) cap)] (fun r h' => ∃ a, a.rows = (rows.set i c).take i ++ (rows.set i c).drop (i + 1) ∧ r = accV a ∧ h' = accH 25 3 a) := by
  subst hn
  intro X w vals hr hv
  obtain ⟨cs, _, h2, h3, h4, h5, h6⟩ := hr.blk g _ (.head _)
  have hall : ∀ r, r ∈ rows.set i c → (∀ x, x ∈ r → x.one = true) ∧ r.length = 3 := fun r hr => by
    rcases List.mem_or_eq_of_mem_set hr with h | rfl
    · exact h1 r h
    · exact ⟨hc1, hc2⟩
  have := f92_own (rows.set i c) g cap i (by rw [List.length_set]; exact hi) h4 (by rw [List.length_set]; exact hb) (fun r hr => (hall r hr).1) (fun r hr => (hall r hr).2)
  rw [List.length_set] at this
  exact this X w vals hr hv
theorem trPut_stop {f : Nat} {l : ByteArray} {r : List Row} {ks : List Trie} {path : ByteArray} {rows : List Row} {kid : Trie} (hp : ¬ path = ⟨#[]⟩) (hh : hitB ks (bt path 0) = true) (hk : ks[posF ks (bt path 0)]? = some kid) (hc : shR kid.label path < kid.label.size ∧ rows = []) :
    trPut (f + 1) (.mk l r ks) path rows = .mk l r ks := by
  rw [trPut, if_neg hp, if_pos hh, hk]
  simp only
  rw [if_pos hc]
theorem trPut_go {f : Nat} {l : ByteArray} {r : List Row} {ks : List Trie} {path : ByteArray} {rows : List Row} {kid k1 t : Trie} (hp : ¬ path = ⟨#[]⟩) (hh : hitB ks (bt path 0) = true) (hk : ks[posF ks (bt path 0)]? = some kid) (hc : ¬ (shR kid.label path < kid.label.size ∧ rows = []))
    (h1 : (if shR kid.label path < kid.label.size then splitT kid (shR kid.label path) else kid) = k1) (hput : trPut f k1 (path.extract (shR kid.label path) path.size) rows = t) :
    trPut (f + 1) (.mk l r ks) path rows = if (joinedT t).2 then .mk l r (ks.take (posF ks (bt path 0)) ++ ((joinedT t).1 :: ks.drop (posF ks (bt path 0) + 1))) else .mk l r (ks.take (posF ks (bt path 0)) ++ ks.drop (posF ks (bt path 0) + 1)) := by
  subst h1
  subst hput
  rw [trPut, if_neg hp, if_pos hh, hk]
  simp only
  rw [if_neg hc]
theorem opv_frz0 {ro : Option Nat} {P : Program} {h : H} {ρ : Operand → AV} {o : Oper} {a b : AV} (hv : OpV ro P h ρ o a) (k : Frz [] a b) : OpV ro P h ρ o b := by
  intro X w x K Q' hr hops hk
  exact hv X w x K Q' hr hops (fun v w' hA hr' st => hk v w' (frz_val hr' (hz := []) (h' := h) (List.Perm.refl _) k hA) hr' st)

theorem f58_spec : ∀ (f : Nat) (l : ByteArray) (r : List Row) (ks : List Trie) (path : ByteArray) (rows : List Row) (left : Int), path.size < f → (path.size : Int) ≤ left → left ≤ 1000 → rowsB rows = true → kidsB ks left (-1) = true →
    FSpec Tryd.prog 58 [.agg [.d (.s l), .d (dRows r), .d (.sl (encTries ks))], .d (.s path), .d (dRows rows)] (aTrie (trPut f (.mk l r ks) path rows)) := by
  intro f
  induction f with
  | zero => intro l r ks path rows left h; exact absurd h (by omega)
  | succ f ih =>
  intro l r ks path rows left hf hl hL hrows hks
  have hlen : ks.length ≤ 1000000000 := by have := kidsB_len _ _ _ (by omega) (by omega) hks; omega
  have hrl : rows.length ≤ 64 := by
    unfold rowsB at hrows
    simp only [Bool.and_eq_true, decide_eq_true_eq] at hrows
    exact hrows.1
  obtain ⟨h5, h6⟩ := kidsB_iff.1 hks
  have hP : ∀ t, t ∈ ks → 0 < t.label.size := fun t ht => (nodeB_lab (h5 t ht).1).1
  have hS : ∀ (i j : Nat) (t u : Trie), i ≤ j → ks[i]? = some t → ks[j]? = some u → bt t.label 0 ≤ bt u.label 0 := fun i j t u hij hi hj => by
    rcases Nat.lt_or_eq_of_le hij with h | rfl
    · obtain ⟨a1, a2⟩ := List.getElem?_eq_some_iff.1 hi
      obtain ⟨b1, b2⟩ := List.getElem?_eq_some_iff.1 hj
      have := List.pairwise_iff_getElem.1 h6 i j a1 b1 h
      rw [a2, b2] at this
      omega
    · rw [hi] at hj
      injection hj with hj
      rw [hj]
      exact Int.le_refl _
  refine acalls_of Tryd.func58 rfl Tryd.ntmps58 Tryd.results58 (by simp) ?_
  refine awp_seq ?_
  refine awp_region ?_
  refine l_box (.plain rfl) rfl rfl rfl (.t .here) rfl rfl (fun g1 ng1 => ?_)
  refine l_alloc zT25 (.plain rfl) rfl rfl rfl (fun g2 ng2 => ?_)
  refine awpL_nil ?_
  refine awp_seq ?_
  refine awp_region ?_
  refine lv (.plain rfl) rfl rfl (q_loadn (agT25) rfl (Ev.eq (.t (.n 3 1 rfl))) (.there .here) rfl) ?_
  refine l_xd (.plain rfl) rfl rfl (x_calla (hf := [_, _]) rfl .f Tryd.call87 (.cons (.t .here) .nil) rfl rfl (f87_own l r ks hlen)) ?_
  rintro _ _ ⟨_, ⟨acc3, hacc3, rfl, rfl⟩, rfl⟩
  dsimp only [List.cons_append, List.nil_append]
  refine l_storen Tryd.sizeOf25 (.plain rfl) rfl rfl (.t (.n 3 3 rfl)) (.t .here) (by simp only [List.all_cons, List.all_nil, accV_one, Bool.and_true]; rfl) rfl rfl (.there .here) ?_
  refine awpL_nil ?_
  refine awp_seq ?_
  refine awp_seq ?_
  refine awp_region ?_
  refine lv (.plain rfl) rfl rfl (opv_move rfl (Ev.eq (.t (.n 1 5 rfl)))) ?_
  refine lv (.plain rfl) rfl rfl (opv_eql_s rfl (Ev.eq (.t .here)) (Ev.eq .s) rfl) ?_
  refine awpL_nil ?_
  refine psplit .here (fun h14 => ?_) (fun h14 => ?_)
  ·
   have q14 := h14
   try simp only [zs, List.length_map, bl_inj] at q14
   refine pcond_t (.t .here) h14 ?_
   refine awp_seq ?_
   refine awp_region ?_
   refine lv (.plain rfl) rfl rfl (opv_move rfl (Ev.eq (.t (.n 2 8 rfl)))) ?_
   refine lv (.plain rfl) rfl rfl (q_call rfl .f Tryd.call55 (.cons (.t .here) .nil) rfl (f55_spec rows (by omega))) ?_
   refine lv (.plain rfl) rfl rfl (p_field (fldT25_1) rfl (Ev.eq (.t (.n 3 7 rfl))) (off' := 1) rfl) ?_
   refine l_store1 Tryd.sizeOf22 (.plain rfl) rfl rfl (.t .here) (.t (.n 16 1 rfl)) rfl (.there .here) (.there .here) ?_
   refine awpL_nil ?_
   refine awp_seq ?_
   refine awp_region ?_
   refine lv (.plain rfl) rfl rfl (q_loadn (agT25) rfl (Ev.eq (.t (.n 3 8 rfl))) (.there .here) rfl) ?_
   refine l_storen Tryd.sizeOf25 (.plain rfl) rfl rfl (.t (.n 6 8 rfl)) (.t .here) (by simp only [List.all_cons, List.all_nil, accV_one, Bool.and_true]; rfl) rfl rfl .here ?_
   refine awpL_nil ?_
   refine awp_ret ?_
   refine ret_now (.one (rv_c (agT25) (.n 6 8 rfl) .here rfl)) (Cast.frz0 (.agg (.cons .refl (.cons .refl (.cons (frz_acc (e := 25) (sz := 3) (xs := encTries (ks)) (fun q hq => (List.mem_cons_of_mem _ (List.mem_cons_of_mem _ hq))) (by rw [hacc3, encTries_eq]; rfl)) .nil))))) ?_
   rw [show trPut (f + 1) (.mk l r ks) path rows = .mk l rows ks by rw [trPut, if_pos q14]]
   exact ⟨rfl, rfl⟩
  ·
   have q14 := h14
   try simp only [zs, List.length_map, bl_inj] at q14
   refine pcond_f (.t .here) h14 ?_
   refine awp_skip ?_
   refine awp_seq ?_
   refine g_draw mixed (kb_cons (.tail _ (.head _)) (kb_all (fun q hq => (List.mem_cons_of_mem _ (List.mem_cons_of_mem _ hq))))) (by kernel_rfl) (fuel := 10) rfl rfl ?_
   refine g_v (listed' := bs 10 1) 0 rfl (by kernel_rfl) rfl (fun _ => .plain rfl) rfl (fun _ hK => p_field (fldT25_2) rfl (Ev.eq (.t (.n 3 5 rfl))) (off' := 2) rfl) (kb_cons (.tail _ (.head _)) (kb_all (fun q hq => (List.mem_cons_of_mem _ (List.mem_cons_of_mem _ hq))))) ?_
   refine g_v (listed' := bs 10 3) 1 rfl (by kernel_rfl) rfl (fun _ => .plain rfl) rfl (fun _ hK => m_load1 (scT23) rfl (Ev.eq (.t .here)) (hK _ (.head _)) (.there (.there .here))) (kb_cons (.tail _ (.head _)) (kb_all (fun q hq => (List.mem_cons_of_mem _ (List.mem_cons_of_mem _ hq))))) ?_
   refine g_v (listed' := bs 10 7) 2 rfl (by kernel_rfl) rfl (fun _ => .plain rfl) rfl (fun _ hK => opv_move rfl (Ev.eq (.t (.n 1 9 rfl)))) (kb_cons (.tail _ (.head _)) (kb_all (fun q hq => (List.mem_cons_of_mem _ (List.mem_cons_of_mem _ hq))))) ?_
   have hps := ne_pos q14
   refine g_v (listed' := bs 10 15) 3 rfl (by kernel_rfl) rfl (fun _ => .plain rfl) rfl (fun _ hK => opv_index_s Tryd.underlying9 rfl (Ev.eq (.t .here)) (Ev.eq .i) (by omega) (by omega) rfl) (kb_cons (.tail _ (.head _)) (kb_all (fun q hq => (List.mem_cons_of_mem _ (List.mem_cons_of_mem _ hq))))) ?_
   refine g_v (listed' := bs 10 31) 4 rfl (by kernel_rfl) rfl (fun _ => .plain rfl) rfl (fun _ hK => q_call_ro rfl .f fnas_fn Tryd.call53 (.cons (.t (.n 21 2 rfl)) (.cons (.t .here) .nil)) rfl (.cons (frz_acc (e := 25) (sz := 3) (fun q hq => hK q (List.mem_cons_of_mem _ hq)) (by rw [hacc3, encTries_eq]; rfl)) (.cons .refl .nil)) (f53_spec ks (bt path 0) (bt_range _ _) hP hS hlen) (by simp [AV.scal])) (kb_cons (.tail _ (.head _)) (kb_all (fun q hq => (List.mem_cons_of_mem _ (List.mem_cons_of_mem _ hq))))) ?_
   refine g_v (listed' := bs 10 63) 5 rfl (by kernel_rfl) rfl (fun _ => .plain rfl) rfl (fun _ hK => opv_move rfl (Ev.eq (.t .here))) (kb_cons (.tail _ (.head _)) (kb_all (fun q hq => (List.mem_cons_of_mem _ (List.mem_cons_of_mem _ hq))))) ?_
   refine g_v (listed' := bs 10 127) 6 rfl (by kernel_rfl) rfl (fun _ => .plain rfl) rfl (fun _ hK => q_extract rfl (Ev.eq (.t .here)) .here) (kb_cons (.tail _ (.head _)) (kb_all (fun q hq => (List.mem_cons_of_mem _ (List.mem_cons_of_mem _ hq))))) ?_
   refine g_v (listed' := bs 10 255) 7 rfl (by kernel_rfl) rfl (fun _ => .plain rfl) rfl (fun _ hK => q_extract rfl (Ev.eq (.t (.n 19 1 rfl))) (.there .here)) (kb_cons (.tail _ (.head _)) (kb_all (fun q hq => (List.mem_cons_of_mem _ (List.mem_cons_of_mem _ hq))))) ?_
   refine g_v (listed' := bs 10 511) 8 rfl (by kernel_rfl) rfl (fun _ => .plain rfl) rfl (fun _ hK => opv_assign rfl (Ev.eq (.t (.n 25 1 rfl)))) (kb_cons (.tail _ (.head _)) (kb_all (fun q hq => (List.mem_cons_of_mem _ (List.mem_cons_of_mem _ hq))))) ?_
   refine g_v (listed' := bs 10 1023) 9 rfl (by kernel_rfl) rfl (fun _ => .plain rfl) rfl (fun _ hK => opv_assign rfl (Ev.eq (.t (.n 26 1 rfl)))) (kb_cons (.tail _ (.head _)) (kb_all (fun q hq => (List.mem_cons_of_mem _ (List.mem_cons_of_mem _ hq))))) ?_
   refine g_end (by kernel_rfl) ?_
   refine awp_seq ?_
   refine awp_seq ?_
   refine awp_region ?_
   refine lv (.plain rfl) rfl rfl (opv_move rfl (Ev.eq (.t .here))) ?_
   refine lv (.plain rfl) rfl rfl (opv_not rfl (Ev.eq (.t .here)) rfl) ?_
   refine awpL_nil ?_
   refine psplit (.n 26 4 rfl) (fun h26 => ?_) (fun h26 => ?_)
   ·
    have q26 := h26
    try simp only [zs, List.length_map, bl_inj] at q26
    refine pcond_f (.t .here) (congrArg not h26) ?_
    refine awp_skip ?_
    refine awp_seq ?_
    have hhit := q26
    obtain ⟨kid, hkid⟩ : ∃ kid, ks[(posF ks (bt path 0))]? = some kid := by
      unfold hitB at hhit
      cases hq : ks[(posF ks (bt path 0))]? with
      | none => rw [hq] at hhit; cases hhit
      | some k => exact ⟨k, rfl⟩
    obtain ⟨kl, kr, kk⟩ := kid
    have hkb : bt kl 0 = bt path 0 := by
      unfold hitB at hhit
      rw [hkid] at hhit
      exact of_decide_eq_true hhit
    have hkn := (h5 _ (List.mem_of_getElem? hkid)).1
    have hkl := nodeB_lab hkn
    simp only [Trie.label] at hkl
    have hkk := (nodeB_iff.1 hkn).2.2.2
    have hkkl := kidsB_len _ _ _ (by omega) (by omega) hkk
    have hpos : (posF ks (bt path 0)) < ks.length := (List.getElem?_eq_some_iff.1 hkid).1
    have hrow : (cellsOf encTrie ks)[(posF ks (bt path 0))]? = some [.d (.s kl), .d (dRows kr), .d (.sl (encTries kk))] := cells_row hkid
    obtain ⟨hs1, hs2, hs3, hs4⟩ := shR_spec kl path
    have hs0 := shR_pos hkl.1 hps hkb
    obtain ⟨g, cap, rfl⟩ := acc_at hacc3 (by rw [cellsOf_len]; omega)
    dsimp only [accV, accH]
    refine awp_region ?_
    refine lv (.plain rfl) rfl rfl (p_field (fldT25_2) rfl (Ev.eq (.t (.n 3 17 rfl))) (off' := 2) rfl) ?_
    refine lv (.plain rfl) rfl rfl (q_load1 (scT23) rfl (Ev.eq (.t .here)) (.there .here) (.there (.there .here))) ?_
    refine lv (.plain rfl) rfl rfl (opv_move rfl (Ev.eq (.t (.n 7 5 rfl)))) ?_
    refine lv (.plain rfl) rfl rfl (p_indexo (slT23) rfl (Ev.eq (.t (.n 44 1 rfl))) (Ev.eq (.t .here)) (by omega) (by rw [cellsOf_len]; omega) rfl) ?_
    refine lv (.plain rfl) rfl rfl (q_load_row (agT25) rfl (Ev.eq (.t .here)) (.there (.there .here)) hrow (by simp) (by simp)) ?_
    refine l_alloc zT25 (.plain rfl) rfl rfl rfl (fun g5 ng5 => ?_)
    refine l_storen Tryd.sizeOf25 (.plain rfl) rfl rfl (.t .here) (.t (.n 47 1 rfl)) rfl rfl rfl .here ?_
    refine awpL_nil ?_
    refine awp_seq ?_
    refine awp_region ?_
    refine lv (.plain rfl) rfl rfl (p_field (fldT25_0) rfl (Ev.eq (.t .here)) (off' := 0) rfl) ?_
    refine lv (.plain rfl) rfl rfl (q_load1 (scT9) rfl (Ev.eq (.t .here)) .here .here) ?_
    refine lv (.plain rfl) rfl rfl (opv_move rfl (Ev.eq (.t (.n 1 27 rfl)))) ?_
    refine lv (.plain rfl) rfl rfl (q_call rfl .f Tryd.call89 (.cons (.t (.n 49 1 rfl)) (.cons (.t .here) .nil)) rfl (f89_spec kl path (by omega))) ?_
    refine lv (.plain rfl) rfl rfl (opv_assign rfl (Ev.eq (.t .here))) ?_
    refine awpL_nil ?_
    refine awp_seq ?_
    refine awp_seq ?_
    refine awp_region ?_
    refine lv (.plain rfl) rfl rfl (opv_move rfl (Ev.eq (.t .here))) ?_
    refine lv (.plain rfl) rfl rfl (p_field (fldT25_0) rfl (Ev.eq (.t (.n 9 6 rfl))) (off' := 0) rfl) ?_
    refine lv (.plain rfl) rfl rfl (q_load1 (scT9) rfl (Ev.eq (.t .here)) .here .here) ?_
    refine lv (.plain rfl) rfl rfl (opv_len_s Tryd.underlying9 rfl (Ev.eq (.t .here)) rfl) ?_
    refine lv (.plain rfl) rfl rfl (opv_lss rfl (Ev.eq (.t (.n 52 3 rfl))) (Ev.eq (.t .here)) rfl) ?_
    refine awpL_nil ?_
    refine psplit .here (fun h56 => ?_) (fun h56 => ?_)
    ·
     have q56 := h56
     try simp only [zs, List.length_map, bl_inj] at q56
     refine pcond_t (.t .here) h56 ?_
     refine awp_seq ?_
     refine awp_seq ?_
     refine awp_region ?_
     refine lv (.plain rfl) rfl rfl (opv_move rfl (Ev.eq (.t (.n 2 36 rfl)))) ?_
     refine lv (.plain rfl) rfl rfl (opv_len_sl Tryd.underlying22 rfl (Ev.eq (.t .here)) rfl) ?_
     refine lv (.plain rfl) rfl rfl (opv_eql_i rfl (Ev.eq (.t .here)) (Ev.eq .i) rfl) ?_
     refine awpL_nil ?_
     refine psplit .here (fun h59 => ?_) (fun h59 => ?_)
     ·
      have q59 := h59
      try simp only [zs, List.length_map, bl_inj] at q59
      refine pcond_t (.t .here) h59 ?_
      refine awp_seq ?_
      refine awp_region ?_
      refine lv (.plain rfl) rfl rfl (q_loadn (agT25) rfl (Ev.eq (.t (.n 3 36 rfl))) (.there (.there .here)) rfl) ?_
      refine l_storen Tryd.sizeOf25 (.plain rfl) rfl rfl (.t (.n 6 36 rfl)) (.t .here) rfl rfl rfl (.there .here) ?_
      refine awpL_nil ?_
      refine awp_ret ?_
      refine ret_now (.one (rv_c (agT25) (.n 6 36 rfl) (.there .here) rfl)) (Cast.frz0 (.agg (.cons .refl (.cons .refl (.cons (.own (xs := encTries (ks)) (.tail _ (.tail _ (.tail _ (.head _)))) (by rw [encTries_eq]; rfl) (by first | rfl | (rw [List.length_set]))) .nil))))) ?_
      rw [show trPut (f + 1) (.mk l r ks) path rows = .mk l r ks from trPut_stop q14 hhit hkid ⟨by simp only [Trie.label]; omega, List.eq_nil_of_length_eq_zero (by omega)⟩]
      exact ⟨rfl, rfl⟩
     ·
      have q59 := h59
      try simp only [zs, List.length_map, bl_inj] at q59
      refine pcond_f (.t .here) h59 ?_
      refine awp_skip ?_
      refine awp_region ?_
      refine lv (.plain rfl) rfl rfl (q_loadn (agT25) rfl (Ev.eq (.t (.n 9 13 rfl))) .here rfl) ?_
      refine lv (.plain rfl) rfl rfl (opv_move rfl (Ev.eq (.t (.n 10 9 rfl)))) ?_
      refine lv (.plain rfl) rfl rfl (q_call rfl .f Tryd.call90 (.cons (.t (.n 61 1 rfl)) (.cons (.t .here) .nil)) rfl (f90_spec kl kr kk (shR kl path) (by omega))) ?_
      refine l_storen Tryd.sizeOf25 (.plain rfl) rfl rfl (.t (.n 9 16 rfl)) (.t .here) rfl rfl rfl .here ?_
      refine awpL_nil ?_
      refine awp_seq ?_
      have hk1 : (if (shR kl path) < kl.size then splitT (.mk kl kr kk) (shR kl path) else .mk kl kr kk) = .mk (kl.extract 0 (shR kl path)) [] [.mk (kl.extract (shR kl path) kl.size) kr kk] := by rw [if_pos (show shR kl path < kl.size by omega)]; try rfl
      have hnr : ¬ ((shR kl path) < kl.size ∧ rows = []) := fun h => q59 (by rw [h.2]; rfl)
      have hwk : wk (.mk (kl.extract 0 (shR kl path)) [] [.mk (kl.extract (shR kl path) kl.size) kr kk]) left := (split_wk hkn hs0 (by simp only [Trie.label]; omega)).1
      have hl1 : ((kl.extract 0 (shR kl path)) : ByteArray).size = (shR kl path) := by rw [ext_size _ hs1]; omega
      obtain ⟨w1, w2, w3, w4⟩ := hwk
      simp only [Trie.label, Trie.rows, Trie.kids] at w1 w2 w3 w4
      have hps2 : (path.extract (shR kl path) path.size).size = path.size - (shR kl path) := ext_size _ (Nat.le_refl _)
      obtain ⟨r2, ks2, e1, e2, e3, e4⟩ := put_spec f (kl.extract 0 (shR kl path)) [] [.mk (kl.extract (shR kl path) kl.size) kr kk] (path.extract (shR kl path) path.size) rows (left - ((kl.extract 0 (shR kl path)) : ByteArray).size) (by omega) (by omega) hrows w4
      have hput := ih (kl.extract 0 (shR kl path)) [] [.mk (kl.extract (shR kl path) kl.size) kr kk] (path.extract (shR kl path) path.size) rows (left - ((kl.extract 0 (shR kl path)) : ByteArray).size) (by omega) (by omega) (by omega) hrows w4
      rw [e1] at hput
      have hk2 : ∀ k, k ∈ ks2 → k.kids.length ≤ 1000000000 ∧ ((kl.extract 0 (shR kl path)) : ByteArray).size + k.label.size ≤ 1000000000 := fun k hk => by
        have hn := (kidsB_iff.1 e3).1 k hk
        obtain ⟨al, ar, ak⟩ := k
        have h1 := nodeB_iff.1 hn.1
        have h2 := kidsB_len _ _ _ (by omega) (by omega) h1.2.2.2
        simp only [Trie.label, Trie.kids]
        omega
      refine g_draw mixed kb_nil (by kernel_rfl) (fuel := 7) rfl rfl ?_
      refine g_v (listed' := bs 7 2) 1 rfl (by kernel_rfl) rfl (fun _ => .plain rfl) rfl (fun _ hK => opv_move rfl (Ev.eq (.t (.n 1 41 rfl)))) kb_nil ?_
      refine g_v (listed' := bs 7 6) 2 rfl (by kernel_rfl) rfl (fun _ => .plain rfl) rfl (fun _ hK => opv_move rfl (Ev.eq (.t (.n 10 12 rfl)))) kb_nil ?_
      refine g_v (listed' := bs 7 14) 3 rfl (by kernel_rfl) rfl (fun _ => .plain rfl) rfl (fun _ hK => opv_slice_s Tryd.underlying9 rfl (Ev.eq (.t (.n 65 1 rfl))) ⟨_, (Ev.eq (.t .here))⟩ rfl (by omega) (by omega) (by omega) rfl) kb_nil ?_
      refine g_v (listed' := bs 7 30) 4 rfl (by kernel_rfl) rfl (fun _ => .plain rfl) rfl (fun _ hK => opv_move rfl (Ev.eq (.t (.n 2 45 rfl)))) kb_nil ?_
      refine g_xd (listed' := bs 7 31) 0 (by kernel_rfl) rfl rfl (.plain rfl) rfl (opx_v (q_loadn (agT25) rfl (Ev.eq (.t (.n 9 20 rfl))) .here rfl)) ?_
      rintro _ _ ⟨rfl, rfl⟩
      refine ⟨kb_nil, ?_⟩
      refine g_v (listed' := bs 7 63) 5 rfl (by kernel_rfl) rfl (fun _ => .plain rfl) rfl (fun _ hK => q_call rfl .f Tryd.call58 (.cons (.t .here) (.cons (.t (.n 67 2 rfl)) (.cons (.t (.n 68 1 rfl)) .nil))) rfl (hput)) kb_nil ?_
      refine g_x0 (listed' := bs 7 127) 6 (by kernel_rfl) rfl rfl (.plain rfl) rfl (x_storen Tryd.sizeOf25 rfl (.t (.n 9 22 rfl)) (.t .here) rfl rfl rfl .here) ?_
      rintro _ _ rfl
      refine ⟨kb_nil, ?_⟩
      refine g_end (by kernel_rfl) ?_
      refine awp_seq ?_
      refine awp_seq ?_
      refine g_draw mixed (kb_cons (.head _) (kb_cons (.tail _ (.tail _ (.head _))) kb_nil)) (by kernel_rfl) (fuel := 11) rfl rfl ?_
      refine g_v (listed' := bs 11 1) 0 rfl (by kernel_rfl) rfl (fun _ => .plain rfl) rfl (fun _ hK => p_field (fldT25_2) rfl (Ev.eq (.t (.n 3 45 rfl))) (off' := 2) rfl) (kb_cons (.head _) (kb_cons (.tail _ (.tail _ (.head _))) kb_nil)) ?_
      refine g_v (listed' := bs 11 3) 1 rfl (by kernel_rfl) rfl (fun _ => .plain rfl) rfl (fun _ hK => m_load1 (scT23) rfl (Ev.eq (.t .here)) (hK _ (.tail _ (.head _))) (.there (.there .here))) (kb_cons (.head _) (kb_cons (.tail _ (.tail _ (.head _))) kb_nil)) ?_
      refine g_v (listed' := bs 11 7) 2 rfl (by kernel_rfl) rfl (fun _ => .plain rfl) rfl (fun _ hK => opv_move rfl (Ev.eq (.t (.n 7 33 rfl)))) (kb_cons (.head _) (kb_cons (.tail _ (.tail _ (.head _))) kb_nil)) ?_
      refine g_v (listed' := bs 11 15) 3 rfl (by kernel_rfl) rfl (fun _ => .plain rfl) rfl (fun _ hK => m_loadn (agT25) rfl (Ev.eq (.t (.n 9 25 rfl))) (hK _ (.head _)) rfl) (kb_cons (.head _) (kb_cons (.tail _ (.tail _ (.head _))) kb_nil)) ?_
      refine g_v (listed' := bs 11 31) 4 rfl (by kernel_rfl) rfl (fun _ => .plain rfl) rfl (fun _ hK => q_call rfl .f Tryd.call91 (.cons (.t .here) .nil) rfl (f91_spec _ r2 ks2 hk2)) (kb_cons (.head _) (kb_cons (.tail _ (.tail _ (.head _))) kb_nil)) ?_
      refine g_v (listed' := bs 11 63) 5 rfl (by kernel_rfl) rfl (fun _ => .plain rfl) rfl (fun _ hK => opv_move rfl (Ev.eq (.t .here))) (kb_cons (.head _) (kb_cons (.tail _ (.tail _ (.head _))) kb_nil)) ?_
      refine g_v (listed' := bs 11 127) 6 rfl (by kernel_rfl) rfl (fun _ => .plain rfl) rfl (fun _ hK => q_extract rfl (Ev.eq (.t .here)) .here) (kb_cons (.head _) (kb_cons (.tail _ (.tail _ (.head _))) kb_nil)) ?_
      refine g_v (listed' := bs 11 255) 7 rfl (by kernel_rfl) rfl (fun _ => .plain rfl) rfl (fun _ hK => q_extract rfl (Ev.eq (.t (.n 70 1 rfl))) (.there .here)) (kb_cons (.head _) (kb_cons (.tail _ (.tail _ (.head _))) kb_nil)) ?_
      refine g_v (listed' := bs 11 511) 8 rfl (by kernel_rfl) rfl (fun _ => .plain rfl) rfl (fun _ hK => p_indexo (slT23) rfl (Ev.eq (.t (.n 72 6 rfl))) (Ev.eq (.t (.n 73 5 rfl))) (by omega) (by rw [cellsOf_len]; omega) rfl) (kb_cons (.head _) (kb_cons (.tail _ (.tail _ (.head _))) kb_nil)) ?_
      refine g_x0 (listed' := bs 11 1023) 9 (by kernel_rfl) rfl rfl (.plain rfl) rfl (x_store_row (j := (posF ks (bt path 0))) Tryd.sizeOf25 rfl (.t .here) (.t (.n 76 2 rfl)) rfl (by intro x hx; simp [aTrie, AV.cs] at hx; rcases hx with rfl | rfl | rfl <;> rfl) rfl ⟨_, hrow, rfl⟩ (by simp) rfl (.there (.there (.there .here)))) ?_
      rintro _ _ rfl
      refine ⟨(kb_cons (.head _) (kb_cons (.tail _ (.tail _ (.head _))) kb_nil)), ?_⟩
      refine g_v (listed' := bs 11 2047) 10 rfl (by kernel_rfl) rfl (fun _ => .plain rfl) rfl (fun _ hK => opv_assign rfl (Ev.eq (.t (.n 77 1 rfl)))) (kb_cons (.head _) (kb_cons (.tail _ (.tail _ (.head _))) kb_nil)) ?_
      refine g_end (by kernel_rfl) ?_
      refine awp_seq ?_
      refine awp_region ?_
      refine lv (.plain rfl) rfl rfl (opv_move rfl (Ev.eq (.t .here))) ?_
      refine lv (.plain rfl) rfl rfl (opv_not rfl (Ev.eq (.t .here)) rfl) ?_
      refine awpL_nil ?_
      refine psplit (.n 77 4 rfl) (fun h77 => ?_) (fun h77 => ?_)
      ·
       have q77 := h77
       try simp only [zs, List.length_map, bl_inj] at q77
       refine pcond_f (.t .here) (congrArg not h77) ?_
       refine awp_skip ?_
       refine awp_seq ?_
       refine awp_region ?_
       refine lv (.plain rfl) rfl rfl (q_loadn (agT25) rfl (Ev.eq (.t (.n 3 57 rfl))) (.there (.there .here)) rfl) ?_
       refine l_storen Tryd.sizeOf25 (.plain rfl) rfl rfl (.t (.n 6 57 rfl)) (.t .here) rfl rfl rfl (.there .here) ?_
       refine awpL_nil ?_
       refine awp_ret ?_
       refine ret_now (.one (rv_c (agT25) (.n 6 57 rfl) (.there .here) rfl)) (Cast.frz0 (.agg (.cons .refl (.cons .refl (.cons (.own (xs := encTries (ks.take (posF ks (bt path 0)) ++ ((joinedT (.mk (kl.extract 0 (shR kl path)) r2 ks2)).1 :: ks.drop ((posF ks (bt path 0)) + 1)))) (.tail _ (.tail _ (.tail _ (.head _)))) (by rw [encTries_eq]; have := cells_set (j := (joinedT (.mk (kl.extract 0 (shR kl path)) r2 ks2)).1) hkid; rw [encTrie_eta] at this; exact this) (by first | rfl | (rw [List.length_set]))) .nil))))) ?_
       rw [show trPut (f + 1) (.mk l r ks) path rows = .mk l r (ks.take (posF ks (bt path 0)) ++ ((joinedT (.mk (kl.extract 0 (shR kl path)) r2 ks2)).1 :: ks.drop ((posF ks (bt path 0)) + 1))) from (trPut_go q14 hhit hkid hnr hk1 e1).trans (if_pos q77)]
       exact ⟨rfl, rfl⟩
      ·
       have q77 := h77
       try simp only [zs, List.length_map, bl_inj] at q77
       refine pcond_t (.t .here) (congrArg not h77) ?_
       refine awp_region ?_
       refine lv (.plain rfl) rfl rfl (p_field (fldT25_2) rfl (Ev.eq (.t (.n 3 57 rfl))) (off' := 2) rfl) ?_
       refine lv (.plain rfl) rfl rfl (q_load1 (scT23) rfl (Ev.eq (.t .here)) (.there (.there .here)) (.there (.there .here))) ?_
       refine lv (.plain rfl) rfl rfl (opv_move rfl (Ev.eq (.t (.n 7 45 rfl)))) ?_
       refine lv (.plain rfl) rfl rfl (opv_move rfl (Ev.eq (.t (.n 7 46 rfl)))) ?_
       refine lv (.plain rfl) rfl rfl (opv_add rfl (Ev.eq (.t .here)) (Ev.eq .i) (wr64 (by omega) (by omega)) rfl) ?_
       refine l_xd (.plain rfl) rfl rfl (x_calla (hf := [_, _, _]) rfl .f Tryd.call92 (.cons (.t (.n 82 3 rfl)) (.cons (.t (.n 83 2 rfl)) (.cons (.t .here) .nil))) rfl rfl (f92_set (cellsOf encTrie ks) _ g cap (posF ks (bt path 0)) _ rfl (by rw [cellsOf_len]; exact hpos) (by rw [cellsOf_len]; exact hlen) cells_one (by intro x hx; simp [aTrie, AV.cs] at hx; rcases hx with rfl | rfl | rfl <;> rfl) rfl)) ?_
       rintro _ _ ⟨_, ⟨acc9, hacc9, rfl, rfl⟩, rfl⟩
       dsimp only [List.cons_append, List.nil_append]
       refine lv (.plain rfl) rfl rfl (p_field (fldT25_2) rfl (Ev.eq (.t (.n 3 63 rfl))) (off' := 2) rfl) ?_
       refine l_store1 Tryd.sizeOf23 (.plain rfl) rfl rfl (.t .here) (.t (.n 86 1 rfl)) (accV_one _) (.there (.there .here)) (.there (.there .here)) ?_
       refine awpL_nil ?_
       refine awp_seq ?_
       refine awp_region ?_
       refine lv (.plain rfl) rfl rfl (q_loadn (agT25) rfl (Ev.eq (.t (.n 3 64 rfl))) (.there (.there .here)) rfl) ?_
       refine l_storen Tryd.sizeOf25 (.plain rfl) rfl rfl (.t (.n 6 64 rfl)) (.t .here) (by simp only [List.all_cons, List.all_nil, accV_one, Bool.and_true]; rfl) rfl rfl (.there .here) ?_
       refine awpL_nil ?_
       refine awp_ret ?_
       refine ret_now (.one (rv_c (agT25) (.n 6 64 rfl) (.there .here) rfl)) (Cast.frz0 (.agg (.cons .refl (.cons .refl (.cons (frz_acc (e := 25) (sz := 3) (xs := encTries (ks.take (posF ks (bt path 0)) ++ ks.drop ((posF ks (bt path 0)) + 1))) (fun q hq => (List.mem_cons_of_mem _ (List.mem_cons_of_mem _ (List.mem_cons_of_mem _ hq)))) (by rw [hacc9, encTries_eq]; exact cells_del hpos)) .nil))))) ?_
       rw [show trPut (f + 1) (.mk l r ks) path rows = .mk l r (ks.take (posF ks (bt path 0)) ++ ks.drop ((posF ks (bt path 0)) + 1)) from (trPut_go q14 hhit hkid hnr hk1 e1).trans (if_neg (by rw [q77]; simp))]
       exact ⟨rfl, rfl⟩
    ·
     have q56 := h56
     try simp only [zs, List.length_map, bl_inj] at q56
     refine pcond_f (.t .here) h56 ?_
     refine awp_skip ?_
     refine awp_seq ?_
     have hk1 : (if (shR kl path) < kl.size then splitT (.mk kl kr kk) (shR kl path) else .mk kl kr kk) = .mk kl kr kk := by rw [if_neg (show ¬ shR kl path < kl.size by omega)]; try rfl
     have hnr : ¬ ((shR kl path) < kl.size ∧ rows = []) := fun h => absurd h.1 (by omega)
     have hwk : wk (.mk kl kr kk) left := wk_of hkn
     have hl1 : (kl : ByteArray).size = (shR kl path) := by omega
     obtain ⟨w1, w2, w3, w4⟩ := hwk
     simp only [Trie.label, Trie.rows, Trie.kids] at w1 w2 w3 w4
     have hps2 : (path.extract (shR kl path) path.size).size = path.size - (shR kl path) := ext_size _ (Nat.le_refl _)
     obtain ⟨r2, ks2, e1, e2, e3, e4⟩ := put_spec f kl kr kk (path.extract (shR kl path) path.size) rows (left - (kl : ByteArray).size) (by omega) (by omega) hrows w4
     have hput := ih kl kr kk (path.extract (shR kl path) path.size) rows (left - (kl : ByteArray).size) (by omega) (by omega) (by omega) hrows w4
     rw [e1] at hput
     have hk2 : ∀ k, k ∈ ks2 → k.kids.length ≤ 1000000000 ∧ (kl : ByteArray).size + k.label.size ≤ 1000000000 := fun k hk => by
       have hn := (kidsB_iff.1 e3).1 k hk
       obtain ⟨al, ar, ak⟩ := k
       have h1 := nodeB_iff.1 hn.1
       have h2 := kidsB_len _ _ _ (by omega) (by omega) h1.2.2.2
       simp only [Trie.label, Trie.kids]
       omega
     refine g_draw mixed kb_nil (by kernel_rfl) (fuel := 7) rfl rfl ?_
     refine g_v (listed' := bs 7 2) 1 rfl (by kernel_rfl) rfl (fun _ => .plain rfl) rfl (fun _ hK => opv_move rfl (Ev.eq (.t (.n 1 35 rfl)))) kb_nil ?_
     refine g_v (listed' := bs 7 6) 2 rfl (by kernel_rfl) rfl (fun _ => .plain rfl) rfl (fun _ hK => opv_move rfl (Ev.eq (.t (.n 10 6 rfl)))) kb_nil ?_
     refine g_v (listed' := bs 7 14) 3 rfl (by kernel_rfl) rfl (fun _ => .plain rfl) rfl (fun _ hK => opv_slice_s Tryd.underlying9 rfl (Ev.eq (.t (.n 65 1 rfl))) ⟨_, (Ev.eq (.t .here))⟩ rfl (by omega) (by omega) (by omega) rfl) kb_nil ?_
     refine g_v (listed' := bs 7 30) 4 rfl (by kernel_rfl) rfl (fun _ => .plain rfl) rfl (fun _ hK => opv_move rfl (Ev.eq (.t (.n 2 39 rfl)))) kb_nil ?_
     refine g_xd (listed' := bs 7 31) 0 (by kernel_rfl) rfl rfl (.plain rfl) rfl (opx_v (q_loadn (agT25) rfl (Ev.eq (.t (.n 9 14 rfl))) .here rfl)) ?_
     rintro _ _ ⟨rfl, rfl⟩
     refine ⟨kb_nil, ?_⟩
     refine g_v (listed' := bs 7 63) 5 rfl (by kernel_rfl) rfl (fun _ => .plain rfl) rfl (fun _ hK => q_call rfl .f Tryd.call58 (.cons (.t .here) (.cons (.t (.n 67 2 rfl)) (.cons (.t (.n 68 1 rfl)) .nil))) rfl (hput)) kb_nil ?_
     refine g_x0 (listed' := bs 7 127) 6 (by kernel_rfl) rfl rfl (.plain rfl) rfl (x_storen Tryd.sizeOf25 rfl (.t (.n 9 16 rfl)) (.t .here) rfl rfl rfl .here) ?_
     rintro _ _ rfl
     refine ⟨kb_nil, ?_⟩
     refine g_end (by kernel_rfl) ?_
     refine awp_seq ?_
     refine awp_seq ?_
     refine g_draw mixed (kb_cons (.head _) (kb_cons (.tail _ (.tail _ (.head _))) kb_nil)) (by kernel_rfl) (fuel := 11) rfl rfl ?_
     refine g_v (listed' := bs 11 1) 0 rfl (by kernel_rfl) rfl (fun _ => .plain rfl) rfl (fun _ hK => p_field (fldT25_2) rfl (Ev.eq (.t (.n 3 39 rfl))) (off' := 2) rfl) (kb_cons (.head _) (kb_cons (.tail _ (.tail _ (.head _))) kb_nil)) ?_
     refine g_v (listed' := bs 11 3) 1 rfl (by kernel_rfl) rfl (fun _ => .plain rfl) rfl (fun _ hK => m_load1 (scT23) rfl (Ev.eq (.t .here)) (hK _ (.tail _ (.head _))) (.there (.there .here))) (kb_cons (.head _) (kb_cons (.tail _ (.tail _ (.head _))) kb_nil)) ?_
     refine g_v (listed' := bs 11 7) 2 rfl (by kernel_rfl) rfl (fun _ => .plain rfl) rfl (fun _ hK => opv_move rfl (Ev.eq (.t (.n 7 27 rfl)))) (kb_cons (.head _) (kb_cons (.tail _ (.tail _ (.head _))) kb_nil)) ?_
     refine g_v (listed' := bs 11 15) 3 rfl (by kernel_rfl) rfl (fun _ => .plain rfl) rfl (fun _ hK => m_loadn (agT25) rfl (Ev.eq (.t (.n 9 19 rfl))) (hK _ (.head _)) rfl) (kb_cons (.head _) (kb_cons (.tail _ (.tail _ (.head _))) kb_nil)) ?_
     refine g_v (listed' := bs 11 31) 4 rfl (by kernel_rfl) rfl (fun _ => .plain rfl) rfl (fun _ hK => q_call rfl .f Tryd.call91 (.cons (.t .here) .nil) rfl (f91_spec _ r2 ks2 hk2)) (kb_cons (.head _) (kb_cons (.tail _ (.tail _ (.head _))) kb_nil)) ?_
     refine g_v (listed' := bs 11 63) 5 rfl (by kernel_rfl) rfl (fun _ => .plain rfl) rfl (fun _ hK => opv_move rfl (Ev.eq (.t .here))) (kb_cons (.head _) (kb_cons (.tail _ (.tail _ (.head _))) kb_nil)) ?_
     refine g_v (listed' := bs 11 127) 6 rfl (by kernel_rfl) rfl (fun _ => .plain rfl) rfl (fun _ hK => q_extract rfl (Ev.eq (.t .here)) .here) (kb_cons (.head _) (kb_cons (.tail _ (.tail _ (.head _))) kb_nil)) ?_
     refine g_v (listed' := bs 11 255) 7 rfl (by kernel_rfl) rfl (fun _ => .plain rfl) rfl (fun _ hK => q_extract rfl (Ev.eq (.t (.n 70 1 rfl))) (.there .here)) (kb_cons (.head _) (kb_cons (.tail _ (.tail _ (.head _))) kb_nil)) ?_
     refine g_v (listed' := bs 11 511) 8 rfl (by kernel_rfl) rfl (fun _ => .plain rfl) rfl (fun _ hK => p_indexo (slT23) rfl (Ev.eq (.t (.n 72 6 rfl))) (Ev.eq (.t (.n 73 5 rfl))) (by omega) (by rw [cellsOf_len]; omega) rfl) (kb_cons (.head _) (kb_cons (.tail _ (.tail _ (.head _))) kb_nil)) ?_
     refine g_x0 (listed' := bs 11 1023) 9 (by kernel_rfl) rfl rfl (.plain rfl) rfl (x_store_row (j := (posF ks (bt path 0))) Tryd.sizeOf25 rfl (.t .here) (.t (.n 76 2 rfl)) rfl (by intro x hx; simp [aTrie, AV.cs] at hx; rcases hx with rfl | rfl | rfl <;> rfl) rfl ⟨_, hrow, rfl⟩ (by simp) rfl (.there (.there (.there .here)))) ?_
     rintro _ _ rfl
     refine ⟨(kb_cons (.head _) (kb_cons (.tail _ (.tail _ (.head _))) kb_nil)), ?_⟩
     refine g_v (listed' := bs 11 2047) 10 rfl (by kernel_rfl) rfl (fun _ => .plain rfl) rfl (fun _ hK => opv_assign rfl (Ev.eq (.t (.n 77 1 rfl)))) (kb_cons (.head _) (kb_cons (.tail _ (.tail _ (.head _))) kb_nil)) ?_
     refine g_end (by kernel_rfl) ?_
     refine awp_seq ?_
     refine awp_region ?_
     refine lv (.plain rfl) rfl rfl (opv_move rfl (Ev.eq (.t .here))) ?_
     refine lv (.plain rfl) rfl rfl (opv_not rfl (Ev.eq (.t .here)) rfl) ?_
     refine awpL_nil ?_
     refine psplit (.n 77 4 rfl) (fun h77 => ?_) (fun h77 => ?_)
     ·
      have q77 := h77
      try simp only [zs, List.length_map, bl_inj] at q77
      refine pcond_f (.t .here) (congrArg not h77) ?_
      refine awp_skip ?_
      refine awp_seq ?_
      refine awp_region ?_
      refine lv (.plain rfl) rfl rfl (q_loadn (agT25) rfl (Ev.eq (.t (.n 3 51 rfl))) (.there (.there .here)) rfl) ?_
      refine l_storen Tryd.sizeOf25 (.plain rfl) rfl rfl (.t (.n 6 51 rfl)) (.t .here) rfl rfl rfl (.there .here) ?_
      refine awpL_nil ?_
      refine awp_ret ?_
      refine ret_now (.one (rv_c (agT25) (.n 6 51 rfl) (.there .here) rfl)) (Cast.frz0 (.agg (.cons .refl (.cons .refl (.cons (.own (xs := encTries (ks.take (posF ks (bt path 0)) ++ ((joinedT (.mk kl r2 ks2)).1 :: ks.drop ((posF ks (bt path 0)) + 1)))) (.tail _ (.tail _ (.tail _ (.head _)))) (by rw [encTries_eq]; have := cells_set (j := (joinedT (.mk kl r2 ks2)).1) hkid; rw [encTrie_eta] at this; exact this) (by first | rfl | (rw [List.length_set]))) .nil))))) ?_
      rw [show trPut (f + 1) (.mk l r ks) path rows = .mk l r (ks.take (posF ks (bt path 0)) ++ ((joinedT (.mk kl r2 ks2)).1 :: ks.drop ((posF ks (bt path 0)) + 1))) from (trPut_go q14 hhit hkid hnr hk1 e1).trans (if_pos q77)]
      exact ⟨rfl, rfl⟩
     ·
      have q77 := h77
      try simp only [zs, List.length_map, bl_inj] at q77
      refine pcond_t (.t .here) (congrArg not h77) ?_
      refine awp_region ?_
      refine lv (.plain rfl) rfl rfl (p_field (fldT25_2) rfl (Ev.eq (.t (.n 3 51 rfl))) (off' := 2) rfl) ?_
      refine lv (.plain rfl) rfl rfl (q_load1 (scT23) rfl (Ev.eq (.t .here)) (.there (.there .here)) (.there (.there .here))) ?_
      refine lv (.plain rfl) rfl rfl (opv_move rfl (Ev.eq (.t (.n 7 39 rfl)))) ?_
      refine lv (.plain rfl) rfl rfl (opv_move rfl (Ev.eq (.t (.n 7 40 rfl)))) ?_
      refine lv (.plain rfl) rfl rfl (opv_add rfl (Ev.eq (.t .here)) (Ev.eq .i) (wr64 (by omega) (by omega)) rfl) ?_
      refine l_xd (.plain rfl) rfl rfl (x_calla (hf := [_, _, _]) rfl .f Tryd.call92 (.cons (.t (.n 82 3 rfl)) (.cons (.t (.n 83 2 rfl)) (.cons (.t .here) .nil))) rfl rfl (f92_set (cellsOf encTrie ks) _ g cap (posF ks (bt path 0)) _ rfl (by rw [cellsOf_len]; exact hpos) (by rw [cellsOf_len]; exact hlen) cells_one (by intro x hx; simp [aTrie, AV.cs] at hx; rcases hx with rfl | rfl | rfl <;> rfl) rfl)) ?_
      rintro _ _ ⟨_, ⟨acc11, hacc11, rfl, rfl⟩, rfl⟩
      dsimp only [List.cons_append, List.nil_append]
      refine lv (.plain rfl) rfl rfl (p_field (fldT25_2) rfl (Ev.eq (.t (.n 3 57 rfl))) (off' := 2) rfl) ?_
      refine l_store1 Tryd.sizeOf23 (.plain rfl) rfl rfl (.t .here) (.t (.n 86 1 rfl)) (accV_one _) (.there (.there .here)) (.there (.there .here)) ?_
      refine awpL_nil ?_
      refine awp_seq ?_
      refine awp_region ?_
      refine lv (.plain rfl) rfl rfl (q_loadn (agT25) rfl (Ev.eq (.t (.n 3 58 rfl))) (.there (.there .here)) rfl) ?_
      refine l_storen Tryd.sizeOf25 (.plain rfl) rfl rfl (.t (.n 6 58 rfl)) (.t .here) (by simp only [List.all_cons, List.all_nil, accV_one, Bool.and_true]; rfl) rfl rfl (.there .here) ?_
      refine awpL_nil ?_
      refine awp_ret ?_
      refine ret_now (.one (rv_c (agT25) (.n 6 58 rfl) (.there .here) rfl)) (Cast.frz0 (.agg (.cons .refl (.cons .refl (.cons (frz_acc (e := 25) (sz := 3) (xs := encTries (ks.take (posF ks (bt path 0)) ++ ks.drop ((posF ks (bt path 0)) + 1))) (fun q hq => (List.mem_cons_of_mem _ (List.mem_cons_of_mem _ (List.mem_cons_of_mem _ hq)))) (by rw [hacc11, encTries_eq]; exact cells_del hpos)) .nil))))) ?_
      rw [show trPut (f + 1) (.mk l r ks) path rows = .mk l r (ks.take (posF ks (bt path 0)) ++ ks.drop ((posF ks (bt path 0)) + 1)) from (trPut_go q14 hhit hkid hnr hk1 e1).trans (if_neg (by rw [q77]; simp))]
      exact ⟨rfl, rfl⟩
   ·
    have q26 := h26
    try simp only [zs, List.length_map, bl_inj] at q26
    refine pcond_t (.t .here) (congrArg not h26) ?_
    refine awp_seq ?_
    refine awp_seq ?_
    refine awp_region ?_
    refine lv (.plain rfl) rfl rfl (opv_move rfl (Ev.eq (.t (.n 2 20 rfl)))) ?_
    refine lv (.plain rfl) rfl rfl (opv_len_sl Tryd.underlying22 rfl (Ev.eq (.t .here)) rfl) ?_
    refine lv (.plain rfl) rfl rfl (opv_gtr rfl (Ev.eq (.t .here)) (Ev.eq .i) rfl) ?_
    refine awpL_nil ?_
    refine psplit .here (fun h31 => ?_) (fun h31 => ?_)
    ·
     have q31 := h31
     try simp only [zs, List.length_map, bl_inj] at q31
     refine pcond_t (.t .here) h31 ?_
     refine g_draw mixed kb_nil (by kernel_rfl) (fuel := 11) rfl rfl ?_
     refine g_v (listed' := bs 11 1) 0 rfl (by kernel_rfl) rfl (fun _ => .plain rfl) rfl (fun _ hK => p_field (fldT25_2) rfl (Ev.eq (.t (.n 3 20 rfl))) (off' := 2) rfl) kb_nil ?_
     refine g_v (listed' := bs 11 5) 2 rfl (by kernel_rfl) rfl (fun _ => .plain rfl) rfl (fun _ hK => opv_move rfl (Ev.eq (.t (.n 7 7 rfl)))) kb_nil ?_
     refine g_v (listed' := bs 11 13) 3 rfl (by kernel_rfl) rfl (fun _ => .plain rfl) rfl (fun _ hK => opv_move rfl (Ev.eq (.t (.n 1 24 rfl)))) kb_nil ?_
     refine g_v (listed' := bs 11 29) 4 rfl (by kernel_rfl) rfl (fun _ => .plain rfl) rfl (fun _ hK => opv_move rfl (Ev.eq (.t (.n 2 26 rfl)))) kb_nil ?_
     refine g_v (listed' := bs 11 61) 5 rfl (by kernel_rfl) rfl (fun _ => .plain rfl) rfl (fun _ hK => q_call rfl .f Tryd.call55 (.cons (.t .here) .nil) rfl (f55_spec rows (by omega))) kb_nil ?_
     refine g_v (listed' := bs 11 125) 6 rfl (by kernel_rfl) rfl (fun _ => .plain rfl) rfl (fun _ hK => opv_frz0 (p_build (bldT25) rfl (.cons (.t (.n 35 2 rfl)) (.cons (.t .here) .nil)) (by simp [AV.cs, AV.one]) (cs := [_, _, _]) rfl) (.agg (.cons .refl (.cons .refl (.cons .nil .nil))))) kb_nil ?_
     refine g_twod (li := bs 11 127) (lj := bs 11 253) 1 7 (by kernel_rfl) rfl rfl rfl rfl rfl rfl (.plain rfl) (.plain rfl) (opx_v (q_load1 (scT23) rfl (Ev.eq (.t (.n 32 5 rfl))) (.there .here) (.there (.there .here)))) (x_buildSlice (cs := [_, _, _]) (rows := [[_, _, _]]) slT23 slZ23_1 rfl rfl rfl (.cons (.t .here) .nil) rfl rfl rfl rfl rfl) ?_ ?_
     ·
      rintro _ _ ⟨rfl, rfl⟩
      refine ⟨kb_nil, ?_⟩
      refine g_xd (listed' := bs 11 255) 7 (by kernel_rfl) rfl rfl (.plain rfl) rfl (x_buildSlice (cs := [_, _, _]) (rows := [[_, _, _]]) slT23 slZ23_1 rfl rfl rfl (.cons (.t (.n 38 1 rfl)) .nil) rfl rfl rfl rfl rfl) ?_
      rintro _ _ ⟨g14, ng14, rfl, rfl⟩
      refine ⟨kb_nil, ?_⟩
      refine g_xd (listed' := bs 11 511) 8 (by kernel_rfl) rfl rfl (.plain rfl) rfl (x_callp (hf := [_, _]) rfl .f Tryd.call88 (.cons (.t (.n 33 1 rfl)) (.cons (.t (.n 34 6 rfl)) (.cons (.t .here) .nil))) rfl (List.perm_middle (l₁ := [_, _])).symm (f88_acc acc3 _ _ (posF ks (bt path 0)) (by rw [hacc3, cellsOf_len]; exact pos_le _ _) (by rw [hacc3, cellsOf_len]; exact hlen) (by rw [hacc3]; exact cells_one) (by intro x hx; simp [aTrie, AV.cs] at hx; rcases hx with rfl | rfl | rfl <;> rfl) rfl)) ?_
      rintro _ _ ⟨_, ⟨acc15, hacc15, rfl, rfl⟩, rfl⟩
      dsimp only [List.cons_append, List.nil_append]
      rw [hacc3] at hacc15
      refine ⟨kb_nil, ?_⟩
      refine g_v (listed' := bs 11 1023) 9 rfl (by kernel_rfl) rfl (fun _ => .plain rfl) rfl (fun _ hK => p_field (fldT25_2) rfl (Ev.eq (.t (.n 3 29 rfl))) (off' := 2) rfl) kb_nil ?_
      refine g_x0 (listed' := bs 11 2047) 10 (by kernel_rfl) rfl rfl (.plain rfl) rfl (x_store1 Tryd.sizeOf23 rfl (.t .here) (.t (.n 40 1 rfl)) (accV_one _) (.there (.there .here)) (.there .here)) ?_
      rintro _ _ rfl
      refine ⟨kb_nil, ?_⟩
      refine g_end (by kernel_rfl) ?_
      refine awp_seq ?_
      refine awp_region ?_
      refine lv (.plain rfl) rfl rfl (q_loadn (agT25) rfl (Ev.eq (.t (.n 3 30 rfl))) (.there .here) rfl) ?_
      refine l_storen Tryd.sizeOf25 (.plain rfl) rfl rfl (.t (.n 6 30 rfl)) (.t .here) (by simp only [List.all_cons, List.all_nil, accV_one, Bool.and_true]; rfl) rfl rfl .here ?_
      refine awpL_nil ?_
      refine awp_ret ?_
      refine ret_now (.one (rv_c (agT25) (.n 6 30 rfl) .here rfl)) (Cast.frz0 (.agg (.cons .refl (.cons .refl (.cons (frz_acc (e := 25) (sz := 3) (xs := encTries (ks.take (posF ks (bt path 0)) ++ (.mk path rows [] :: ks.drop (posF ks (bt path 0))))) (fun q hq => (List.mem_cons_of_mem _ (List.mem_cons_of_mem _ hq))) (by rw [hacc15, encTries_eq]; exact cells_ins (j := .mk path rows []))) .nil))))) ?_
      rw [show trPut (f + 1) (.mk l r ks) path rows = .mk l r (ks.take (posF ks (bt path 0)) ++ (.mk path rows [] :: ks.drop (posF ks (bt path 0)))) by rw [trPut, if_neg q14, if_neg (by rw [q26]; simp), if_neg (fun h => by rw [h] at q31; simp at q31)]]
      exact ⟨rfl, rfl⟩
     ·
      rintro _ _ ⟨g13, ng13, rfl, rfl⟩
      refine ⟨kb_nil, ?_⟩
      refine g_xd (listed' := bs 11 255) 1 (by kernel_rfl) rfl rfl (.plain rfl) rfl (opx_v (q_load1 (scT23) rfl (Ev.eq (.t (.n 32 6 rfl))) (.there (.there .here)) (.there (.there .here)))) ?_
      rintro _ _ ⟨rfl, rfl⟩
      refine ⟨kb_nil, ?_⟩
      refine g_xd (listed' := bs 11 511) 8 (by kernel_rfl) rfl rfl (.plain rfl) rfl (x_callp (hf := [_, _]) rfl .f Tryd.call88 (.cons (.t .here) (.cons (.t (.n 34 6 rfl)) (.cons (.t (.n 39 1 rfl)) .nil))) rfl (List.perm_middle (l₁ := [_, _])).symm (f88_acc acc3 _ _ (posF ks (bt path 0)) (by rw [hacc3, cellsOf_len]; exact pos_le _ _) (by rw [hacc3, cellsOf_len]; exact hlen) (by rw [hacc3]; exact cells_one) (by intro x hx; simp [aTrie, AV.cs] at hx; rcases hx with rfl | rfl | rfl <;> rfl) rfl)) ?_
      rintro _ _ ⟨_, ⟨acc16, hacc16, rfl, rfl⟩, rfl⟩
      dsimp only [List.cons_append, List.nil_append]
      rw [hacc3] at hacc16
      refine ⟨kb_nil, ?_⟩
      refine g_v (listed' := bs 11 1023) 9 rfl (by kernel_rfl) rfl (fun _ => .plain rfl) rfl (fun _ hK => p_field (fldT25_2) rfl (Ev.eq (.t (.n 3 29 rfl))) (off' := 2) rfl) kb_nil ?_
      refine g_x0 (listed' := bs 11 2047) 10 (by kernel_rfl) rfl rfl (.plain rfl) rfl (x_store1 Tryd.sizeOf23 rfl (.t .here) (.t (.n 40 1 rfl)) (accV_one _) (.there (.there .here)) (.there .here)) ?_
      rintro _ _ rfl
      refine ⟨kb_nil, ?_⟩
      refine g_end (by kernel_rfl) ?_
      refine awp_seq ?_
      refine awp_region ?_
      refine lv (.plain rfl) rfl rfl (q_loadn (agT25) rfl (Ev.eq (.t (.n 3 30 rfl))) (.there .here) rfl) ?_
      refine l_storen Tryd.sizeOf25 (.plain rfl) rfl rfl (.t (.n 6 30 rfl)) (.t .here) (by simp only [List.all_cons, List.all_nil, accV_one, Bool.and_true]; rfl) rfl rfl .here ?_
      refine awpL_nil ?_
      refine awp_ret ?_
      refine ret_now (.one (rv_c (agT25) (.n 6 30 rfl) .here rfl)) (Cast.frz0 (.agg (.cons .refl (.cons .refl (.cons (frz_acc (e := 25) (sz := 3) (xs := encTries (ks.take (posF ks (bt path 0)) ++ (.mk path rows [] :: ks.drop (posF ks (bt path 0))))) (fun q hq => (List.mem_cons_of_mem _ (List.mem_cons_of_mem _ hq))) (by rw [hacc16, encTries_eq]; exact cells_ins (j := .mk path rows []))) .nil))))) ?_
      rw [show trPut (f + 1) (.mk l r ks) path rows = .mk l r (ks.take (posF ks (bt path 0)) ++ (.mk path rows [] :: ks.drop (posF ks (bt path 0)))) by rw [trPut, if_neg q14, if_neg (by rw [q26]; simp), if_neg (fun h => by rw [h] at q31; simp at q31)]]
      exact ⟨rfl, rfl⟩
    ·
     have q31 := h31
     try simp only [zs, List.length_map, bl_inj] at q31
     refine pcond_f (.t .here) h31 ?_
     refine awp_skip ?_
     refine awp_seq ?_
     refine awp_region ?_
     refine lv (.plain rfl) rfl rfl (q_loadn (agT25) rfl (Ev.eq (.t (.n 3 20 rfl))) (.there .here) rfl) ?_
     refine l_storen Tryd.sizeOf25 (.plain rfl) rfl rfl (.t (.n 6 20 rfl)) (.t .here) (by simp only [List.all_cons, List.all_nil, accV_one, Bool.and_true]; rfl) rfl rfl .here ?_
     refine awpL_nil ?_
     refine awp_ret ?_
     refine ret_now (.one (rv_c (agT25) (.n 6 20 rfl) .here rfl)) (Cast.frz0 (.agg (.cons .refl (.cons .refl (.cons (frz_acc (e := 25) (sz := 3) (xs := encTries (ks)) (fun q hq => (List.mem_cons_of_mem _ (List.mem_cons_of_mem _ hq))) (by rw [hacc3, encTries_eq]; rfl)) .nil))))) ?_
     rw [show trPut (f + 1) (.mk l r ks) path rows = .mk l r ks by rw [trPut, if_neg q14, if_neg (by rw [q26]; simp), if_pos (by simpa using q31)]]
     exact ⟨rfl, rfl⟩
end Go.Proofs.YtjnkbmodcddbkaaDoor
