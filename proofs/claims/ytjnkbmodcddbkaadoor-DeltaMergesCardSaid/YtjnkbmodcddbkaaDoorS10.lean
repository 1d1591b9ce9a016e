/- Put; trees of entries; Same; the reference's Merge. -/
import Derived.Test.YtjnkbmodcddbkaaDoorTy
import Derived.Test.YtjnkbmodcddbkaaDoorS9
import Derived.Test.YtjnkbmodcddbkaaDoorS5
import Derived.Test.YtjnkbmodcddbkaaDoorS2
set_option linter.unusedVariables false
set_option linter.unusedSimpArgs false
namespace Go.Proofs.YtjnkbmodcddbkaaDoor
open Go Go.RowKit
theorem f24_spec (t : Trie) (p : ByteArray) (rows : List Row) : FSpec Tryd.prog 24 [aTrie t, .d (.s p), .d (dRows rows)] (.tup [aTrie (putP t p rows), .d (.i .i64 (if putOk t p rows then 0 else 2))]) := by
  obtain ⟨l, r, ks⟩ := t
  show FSpec _ _ [.agg [.d (.s l), .d (dRows r), .d (.sl (encTries ks))], .d (.s p), .d (dRows rows)] _
  refine acalls_of Tryd.func24 rfl Tryd.ntmps24 Tryd.results24 (by simp) ?_
  refine awp_seq ?_
  refine awp_region ?_
  refine l_box (.plain rfl) rfl rfl rfl (.t .here) rfl rfl (fun g1 ng1 => ?_)
  refine l_alloc zT25 (.plain rfl) rfl rfl rfl (fun g2 ng2 => ?_)
  refine lv (.plain rfl) rfl rfl (opv_assign rfl (Ev.eq .i)) ?_
  refine awpL_nil ?_
  refine awp_seq ?_
  refine awp_seq ?_
  refine awp_region ?_
  refine lv (.plain rfl) rfl rfl (q_loadn (agT25) rfl (Ev.eq (.t (.n 3 2 rfl))) (.there .here) rfl) ?_
  refine lv (.plain rfl) rfl rfl (q_call rfl .f Tryd.call15 (.cons (.t .here) .nil) rfl (f15_spec (.mk l r ks))) ?_
  refine lv (.plain rfl) rfl rfl (opv_neq_i rfl (Ev.eq (.t .here)) (Ev.eq .i) rfl) ?_
  refine lv (.plain rfl) rfl rfl (opv_move rfl (Ev.eq (.t .here))) ?_
  refine lsplit (.n 10 1 rfl) (fun h10 => ?_) (fun h10 => ?_)
  ·
   have q10 := h10
   try simp only [zs, List.length_map] at q10
   refine lo (.off rfl rfl .here h10) rfl rfl ?_
   refine lo (.off rfl rfl (.n 11 1 rfl) h10) rfl rfl ?_
   refine lo (.off rfl rfl (.n 11 2 rfl) h10) rfl rfl ?_
   refine lv (.plain rfl) rfl rfl (opv_pick_t rfl (Ev.eq (.t (.n 11 3 rfl))) h10 (Ev.eq .b)) ?_
   refine lv (.plain rfl) rfl rfl (opv_move rfl (Ev.eq (.t .here))) ?_
   refine lo (.off rfl rfl .here rfl) rfl rfl ?_
   refine lo (.off rfl rfl (.n 16 1 rfl) rfl) rfl rfl ?_
   refine lo (.off rfl rfl (.n 16 2 rfl) rfl) rfl rfl ?_
   refine lv (.plain rfl) rfl rfl (opv_pick_t rfl (Ev.eq (.t (.n 16 3 rfl))) rfl (Ev.eq .b)) ?_
   refine awpL_nil ?_
   refine pcond_t (.t .here) rfl ?_
   refine awp_seq ?_
   refine awp_region ?_
   refine lv (.plain rfl) rfl rfl (p_build (bldT25) rfl .nil (by simp [AV.cs, AV.one]) (cs := [_, _, _]) rfl) ?_
   refine l_storen Tryd.sizeOf25 (.plain rfl) rfl rfl (.t (.n 6 15 rfl)) (.t .here) rfl rfl rfl .here ?_
   refine lv (.plain rfl) rfl rfl (opv_assign rfl (Ev.eq .i)) ?_
   refine awpL_nil ?_
   refine awp_ret ?_
   refine ret_now (.two (rv_c (agT25) (.n 6 16 rfl) .here rfl) (rv_t .here)) (Cast.frz0 (.tup (.cons (.agg (.cons .refl (.cons .nil (.cons .nil .nil)))) (.cons .refl .nil)))) ?_
   have e : putOk (.mk l r ks) p rows = false := by unfold putOk isPath; simp_all [erI]; try (intro h1 h2; have := q13 h1; omega)
   rw [show putP (.mk l r ks) p rows = emptyT from by unfold putP; rw [e]; rfl, if_neg (by rw [e]; simp)]
   exact ⟨rfl, rfl⟩
  ·
   have q10 := h10
   try simp only [zs, List.length_map] at q10
   refine lv (.on rfl rfl .here h10) rfl rfl (opv_move rfl (Ev.eq (.t (.n 1 8 rfl)))) ?_
   refine lv (.on rfl rfl (.n 11 1 rfl) h10) rfl rfl (q_call rfl .f Tryd.call56 (.cons (.t .here) .nil) rfl (f56_spec _)) ?_
   refine lv (.on rfl rfl (.n 11 2 rfl) h10) rfl rfl (opv_not rfl (Ev.eq (.t .here)) rfl) ?_
   refine lv (.plain rfl) rfl rfl (opv_pick_f rfl (Ev.eq (.t (.n 11 3 rfl))) h10 (Ev.eq (.t .here))) ?_
   refine lv (.plain rfl) rfl rfl (opv_move rfl (Ev.eq (.t .here))) ?_
   refine lsplit (.n 13 3 rfl) (fun h13 => ?_) (fun h13 => ?_)
   ·
    have q13 := h13
    try simp only [zs, List.length_map] at q13
    refine lv (.on rfl rfl .here (congrArg not h13)) rfl rfl (opv_move rfl (Ev.eq (.t (.n 2 14 rfl)))) ?_
    refine lv (.on rfl rfl (.n 16 1 rfl) (congrArg not h13)) rfl rfl (q_call rfl .f Tryd.call57 (.cons (.t .here) .nil) rfl (f57_spec _)) ?_
    refine lv (.on rfl rfl (.n 16 2 rfl) (congrArg not h13)) rfl rfl (opv_neq_i rfl (Ev.eq (.t .here)) (Ev.eq .i) rfl) ?_
    refine lv (.plain rfl) rfl rfl (opv_pick_f rfl (Ev.eq (.t (.n 16 3 rfl))) (congrArg not h13) (Ev.eq (.t .here))) ?_
    refine awpL_nil ?_
    refine psplit (.n 19 1 rfl) (fun h19 => ?_) (fun h19 => ?_)
    ·
     have q19 := h19
     try simp only [zs, List.length_map] at q19
     refine pcond_t (.t .here) h19 ?_
     refine awp_seq ?_
     refine awp_region ?_
     refine lv (.plain rfl) rfl rfl (p_build (bldT25) rfl .nil (by simp [AV.cs, AV.one]) (cs := [_, _, _]) rfl) ?_
     refine l_storen Tryd.sizeOf25 (.plain rfl) rfl rfl (.t (.n 6 15 rfl)) (.t .here) rfl rfl rfl .here ?_
     refine lv (.plain rfl) rfl rfl (opv_assign rfl (Ev.eq .i)) ?_
     refine awpL_nil ?_
     refine awp_ret ?_
     refine ret_now (.two (rv_c (agT25) (.n 6 16 rfl) .here rfl) (rv_t .here)) (Cast.frz0 (.tup (.cons (.agg (.cons .refl (.cons .nil (.cons .nil .nil)))) (.cons .refl .nil)))) ?_
     have e : putOk (.mk l r ks) p rows = false := by unfold putOk isPath; simp_all [erI]; try (intro h1 h2; have := q13 h1; omega)
     rw [show putP (.mk l r ks) p rows = emptyT from by unfold putP; rw [e]; rfl, if_neg (by rw [e]; simp)]
     exact ⟨rfl, rfl⟩
    ·
     have q19 := h19
     try simp only [zs, List.length_map] at q19
     refine pcond_f (.t .here) h19 ?_
     refine awp_skip ?_
     refine awp_seq ?_
     refine awp_region ?_
     refine lv (.plain rfl) rfl rfl (q_loadn (agT25) rfl (Ev.eq (.t (.n 3 15 rfl))) (.there .here) rfl) ?_
     refine lv (.plain rfl) rfl rfl (opv_move rfl (Ev.eq (.t (.n 1 18 rfl)))) ?_
     refine lv (.plain rfl) rfl rfl (opv_move rfl (Ev.eq (.t (.n 2 20 rfl)))) ?_
     have e : putOk (.mk l r ks) p rows = true := by unfold putOk isPath; simp_all [erI]
     obtain ⟨hr0, hr3⟩ : rightB (.mk l r ks) = true ∧ (isPath p && rowsB rows) = true := by simpa only [putOk, Bool.and_eq_true] using e
     obtain ⟨hr1, hr2⟩ : isPath p = true ∧ rowsB rows = true := by simpa only [Bool.and_eq_true] using hr3
     have hps := (of_decide_eq_true hr1).2
     refine lv (.plain rfl) rfl rfl (q_call rfl .f Tryd.call58 (.cons (.t (.n 22 2 rfl)) (.cons (.t (.n 23 1 rfl)) (.cons (.t .here) .nil))) rfl (f58_spec (p.size + 1) l r ks p rows 24 (by omega) (by omega) (by omega) hr2 (rightB_iff.1 hr0).2.2)) ?_
     refine l_storen Tryd.sizeOf25 (.plain rfl) rfl rfl (.t (.n 6 18 rfl)) (.t .here) rfl rfl rfl .here ?_
     refine lv (.plain rfl) rfl rfl (opv_assign rfl (Ev.eq .i)) ?_
     refine awpL_nil ?_
     refine awp_ret ?_
     refine ret_now (.two (rv_c (agT25) (.n 6 19 rfl) .here rfl) (rv_t .here)) (Cast.all _ _) ?_
     rw [show putP (.mk l r ks) p rows = putR (.mk l r ks) p rows from by unfold putP; rw [e]; rfl, if_pos e]
     exact ⟨rfl, rfl⟩
   ·
    have q13 := h13
    try simp only [zs, List.length_map] at q13
    refine lo (.off rfl rfl .here (congrArg not h13)) rfl rfl ?_
    refine lo (.off rfl rfl (.n 16 1 rfl) (congrArg not h13)) rfl rfl ?_
    refine lo (.off rfl rfl (.n 16 2 rfl) (congrArg not h13)) rfl rfl ?_
    refine lv (.plain rfl) rfl rfl (opv_pick_t rfl (Ev.eq (.t (.n 16 3 rfl))) (congrArg not h13) (Ev.eq .b)) ?_
    refine awpL_nil ?_
    refine pcond_t (.t .here) rfl ?_
    refine awp_seq ?_
    refine awp_region ?_
    refine lv (.plain rfl) rfl rfl (p_build (bldT25) rfl .nil (by simp [AV.cs, AV.one]) (cs := [_, _, _]) rfl) ?_
    refine l_storen Tryd.sizeOf25 (.plain rfl) rfl rfl (.t (.n 6 15 rfl)) (.t .here) rfl rfl rfl .here ?_
    refine lv (.plain rfl) rfl rfl (opv_assign rfl (Ev.eq .i)) ?_
    refine awpL_nil ?_
    refine awp_ret ?_
    refine ret_now (.two (rv_c (agT25) (.n 6 16 rfl) .here rfl) (rv_t .here)) (Cast.frz0 (.tup (.cons (.agg (.cons .refl (.cons .nil (.cons .nil .nil)))) (.cons .refl .nil)))) ?_
    have e : putOk (.mk l r ks) p rows = false := by unfold putOk isPath; simp_all [erI]; try (intro h1 h2; have := q13 h1; omega)
    rw [show putP (.mk l r ks) p rows = emptyT from by unfold putP; rw [e]; rfl, if_neg (by rw [e]; simp)]
    exact ⟨rfl, rfl⟩
theorem below_ents {ks : List Trie} {p : ByteArray} {left first : Int} (hk : kidsB ks left first = true) (hp : (p.size : Int) + left ≤ 24) (hl : (entsL ks p).length ≤ 1000000000)
    (ih : ∀ k, k ∈ ks → FSpec Tryd.prog 101 [.d (dEnts (k.ents p)), .d (.i .i64 (p.size : Int))] (aTrie k)) : FSpec Tryd.prog 76 [.d (dEnts (entsL ks p)), .d (.i .i64 (p.size : Int))] (.d (.sl (encTries ks))) := by
  have h5 := (kidsB_iff.1 hk).1
  have hF : ∀ k, k ∈ ks → nodeF 25 (k.ents p) p.size = k := fun k hkm => nodeF_ents 25 k p left (by omega) hp (h5 k hkm).1
  have hr := runs_kids (P := p) (entsL ks p).length hk (Nat.le_refl _)
  have e : (runs p.size (entsL ks p).length (entsL ks p)).map (fun g => nodeF 25 g p.size) = ks := by
    rw [hr, List.map_map]
    conv => rhs; rw [← List.map_id ks]
    exact List.map_congr_left (fun k hkm => hF k hkm)
  have := f76_of (entsL ks p) p.size (fun g => nodeF 25 g p.size) hl (fun x hx => by
    obtain ⟨k, hkm, hx⟩ := mem_entsL.1 hx
    exact (ents_good k _ _ (h5 k hkm).1 x hx).2.1) (fun g hg => by
    rw [hr] at hg
    obtain ⟨k, hkm, rfl⟩ := List.mem_map.1 hg
    simp only [hF k hkm]
    exact ih k hkm)
  rw [e] at this
  exact this
theorem node_ents (t : Trie) : ∀ (p : ByteArray) (left : Int), (p.size : Int) + left ≤ 24 → nodeB t left = true → (t.ents p).length ≤ 1000000000 → FSpec Tryd.prog 101 [.d (dEnts (t.ents p)), .d (.i .i64 (p.size : Int))] (aTrie t) := by
  induction t using Trie.ind with
  | h l r ks ih =>
    intro p left hp h hlen
    obtain ⟨h1, h2, h3, h4⟩ := nodeB_iff.1 h
    obtain ⟨e0, he0⟩ := ents_ne _ p left h
    have hsz : (p ++ l).size = p.size + l.size := app_size _ _
    have hkl : ∀ k, k ∈ ks → (k.ents (p ++ l)).length ≤ (entsL ks (p ++ l)).length := fun k hk => by
      clear ih h3 h4 h hlen he0
      induction ks with
      | nil => cases hk
      | cons u us ihh =>
        rw [entsL, List.length_append]
        rcases List.mem_cons.1 hk with rfl | hk
        · omega
        · have := ihh hk; omega
    have hlen2 : (entsL ks (p ++ l)).length ≤ 1000000000 := by
      rw [ents_mk, List.length_append] at hlen
      omega
    cases hE : (Trie.mk l r ks).ents p with
    | nil => rw [hE] at he0; cases he0
    | cons e r' =>
      obtain ⟨f1, f2, f3, f4, f5⟩ := node_facts hp h hE
      have := f101_of e r' p.size ks (by omega) (by rw [f1]; exact f5) (by
        rw [f1, f4, ← hsz]
        exact below_ents h4 (by rw [hsz]; omega) hlen2 (fun k hk => ih k hk (p ++ l) _ (by rw [hsz]; omega) ((kidsB_iff.1 h4).1 k hk).1 (by have := hkl k hk; omega)))
      rw [f1, f2, f3] at this
      exact this
theorem below_right {t : Trie} (h : rightB t = true) (hlen : (t.ents ⟨#[]⟩).length ≤ 1000000000) : FSpec Tryd.prog 76 [.d (dEnts (t.ents ⟨#[]⟩)), .d (.i .i64 0)] (.d (.sl (encTries t.kids))) := by
  obtain ⟨l, r, ks⟩ := t
  obtain ⟨rfl, rfl, h3⟩ := rightB_iff.1 h
  rw [ents_mk, if_pos rfl, List.nil_append, app_nil] at hlen ⊢
  have hkl : ∀ k, k ∈ ks → (k.ents ⟨#[]⟩).length ≤ (entsL ks ⟨#[]⟩).length := fun k hk => by
    clear h3 h hlen
    induction ks with
    | nil => cases hk
    | cons u us ihh =>
      rw [entsL, List.length_append]
      rcases List.mem_cons.1 hk with rfl | hk
      · omega
      · have := ihh hk; omega
  exact below_ents (p := ⟨#[]⟩) h3 (by decide) hlen (fun k hk => node_ents k ⟨#[]⟩ 24 (by decide) ((kidsB_iff.1 h3).1 k hk).1 (by have := hkl k hk; omega))
theorem f39_spec {t : Trie} (h : rightB t = true) (hlen : (t.ents ⟨#[]⟩).length ≤ 1000000000) : FSpec Tryd.prog 39 [.d (dEnts (t.ents ⟨#[]⟩))] (aTrie t) := by
  refine acalls_of Tryd.func39 rfl Tryd.ntmps39 Tryd.results39 (by simp) ?_
  refine awp_seq ?_
  refine awp_region ?_
  refine l_alloc zT25 (.plain rfl) rfl rfl rfl (fun g1 ng1 => ?_)
  refine awpL_nil ?_
  refine awp_seq ?_
  refine awp_region ?_
  refine lv (.plain rfl) rfl rfl (opv_move rfl (Ev.eq (.t (.n 0 1 rfl)))) ?_
  refine lv (.plain rfl) rfl rfl (q_call rfl .f Tryd.call76 (.cons (.t .here) (.cons .i .nil)) rfl (below_right h hlen)) ?_
  refine lv (.plain rfl) rfl rfl (p_build (bldT25) rfl (.cons (.t .here) .nil) (by simp [AV.cs, AV.one]) (cs := [_, _, _]) rfl) ?_
  refine l_storen Tryd.sizeOf25 (.plain rfl) rfl rfl (.t (.n 2 3 rfl)) (.t .here) rfl rfl rfl .here ?_
  refine awpL_nil ?_
  refine awp_ret ?_
  refine ret_now (.one (rv_c (agT25) (.n 2 3 rfl) .here rfl)) (Cast.frz0 (.agg (.cons .refl (.cons .nil (.cons .refl .nil))))) ?_
  obtain ⟨l, r, ks⟩ := t
  obtain ⟨rfl, rfl, h3⟩ := rightB_iff.1 h
  exact ⟨rfl, rfl⟩
mutual
def sameT : Trie → Trie → Bool
  | .mk l r ks, .mk l' r' ks' => decide (l = l') && (decide (r = r') && sameL ks ks')
def sameL : List Trie → List Trie → Bool
  | [], [] => true
  | t :: r, u :: s => sameT t u && sameL r s
  | _, _ => false
end
theorem sameL_len : ∀ {a b : List Trie}, a.length ≠ b.length → sameL a b = false
  | [], [], h => absurd rfl h
  | [], _ :: _, _ => rfl
  | _ :: _, [], _ => rfl
  | t :: a, u :: b, h => by rw [sameL, sameL_len (a := a) (b := b) (by simpa using h)]; simp
mutual
theorem sameT_iff : ∀ (t u : Trie), sameT t u = true ↔ t = u
  | .mk l r ks, .mk l' r' ks' => by
    rw [sameT, Bool.and_eq_true, Bool.and_eq_true, sameL_iff ks ks', decide_eq_true_eq, decide_eq_true_eq]
    constructor
    · rintro ⟨rfl, rfl, rfl⟩; rfl
    · intro h; injection h with h1 h2 h3; exact ⟨h1, h2, h3⟩
theorem sameL_iff : ∀ (a b : List Trie), sameL a b = true ↔ a = b
  | [], [] => by simp [sameL]
  | [], _ :: _ => by simp [sameL]
  | _ :: _, [] => by simp [sameL]
  | t :: a, u :: b => by rw [sameL, Bool.and_eq_true, sameT_iff t u, sameL_iff a b, List.cons.injEq]
end
theorem kidsB_labs : ∀ (ks : List Trie) (left first : Int), left ≤ 1000000 → -1 ≤ first → first ≤ 255 → kidsB ks left first = true → labs ks
  | [], _, _, _, _, _, _ => trivial
  | .mk l r kk :: ks, left, first, h0, h1, h2, h => by
    have hh := h
    simp only [kidsB, Bool.and_eq_true, decide_eq_true_eq] at hh
    obtain ⟨⟨hn, hf⟩, hr⟩ := hh
    obtain ⟨n1, n2, n3, n4⟩ := nodeB_iff.1 hn
    have hb := bt_range (Trie.mk l r kk).label 0
    have hkl := kidsB_len _ _ _ (by omega) (by omega) n4
    have hrl : r.length ≤ 64 := by
      unfold rowsB at n2
      simp only [Bool.and_eq_true, decide_eq_true_eq] at n2
      exact n2.1
    simp only [labs, Trie.lab]
    exact ⟨⟨by omega, by omega, by omega, kidsB_labs kk _ _ (by omega) (by omega) (by omega) n4⟩, kidsB_labs ks left _ h0 (by omega) (by omega) hr⟩
theorem rightB_lab {t : Trie} (h : rightB t = true) : t.lab := by
  obtain ⟨l, r, ks⟩ := t
  obtain ⟨rfl, rfl, h3⟩ := rightB_iff.1 h
  have hkl := kidsB_len _ _ _ (by omega) (by omega) h3
  simp only [Trie.lab]
  exact ⟨by decide, by simp, by omega, kidsB_labs ks 24 (-1) (by omega) (by omega) (by omega) h3⟩
theorem f12_spec : ∀ (t u : Trie), t.lab → FSpec Tryd.prog 12 [aTrie t, aTrie u] (.d (.b (sameT t u))) := by
  intro t
  induction t using Trie.ind with
  | h l r ks ih =>
  intro u hlab
  obtain ⟨l', r', ks'⟩ := u
  simp only [Trie.lab] at hlab
  obtain ⟨hlab1, hlab2, hlab3, hlab4⟩ := hlab
  simp only [aTrie, Trie.label, Trie.rows, Trie.kids]
  refine acalls_of Tryd.func12 rfl Tryd.ntmps12 Tryd.results12 (by simp) ?_
  refine awp_seq ?_
  refine awp_region ?_
  refine l_box (.plain rfl) rfl rfl rfl (.t .here) rfl rfl (fun g1 ng1 => ?_)
  refine l_box (.plain rfl) rfl rfl rfl (.t (.n 1 2 rfl)) rfl rfl (fun g2 ng2 => ?_)
  refine lv (.plain rfl) rfl rfl (opv_assign rfl (Ev.eq .b)) ?_
  refine awpL_nil ?_
  refine awp_seq ?_
  refine awp_seq ?_
  refine awp_region ?_
  refine lv (.plain rfl) rfl rfl (p_field (fldT25_0) rfl (Ev.eq (.t (.n 2 2 rfl))) (off' := 0) rfl) ?_
  refine lv (.plain rfl) rfl rfl (q_load1 (scT9) rfl (Ev.eq (.t .here)) (.there .here) .here) ?_
  refine lv (.plain rfl) rfl rfl (p_field (fldT25_0) rfl (Ev.eq (.t (.n 3 3 rfl))) (off' := 0) rfl) ?_
  refine lv (.plain rfl) rfl rfl (q_load1 (scT9) rfl (Ev.eq (.t .here)) .here .here) ?_
  refine lv (.plain rfl) rfl rfl (opv_neq_s rfl (Ev.eq (.t (.n 7 2 rfl))) (Ev.eq (.t .here)) rfl) ?_
  refine lv (.plain rfl) rfl rfl (opv_move rfl (Ev.eq (.t .here))) ?_
  refine lsplit (.n 10 1 rfl) (fun h10 => ?_) (fun h10 => ?_)
  ·
   have q10 := h10
   try simp only [zs, List.length_map, encTries_len, bl_inj] at q10
   refine lo (.off rfl rfl .here h10) rfl rfl ?_
   refine lo (.off rfl rfl (.n 11 1 rfl) h10) rfl rfl ?_
   refine lo (.off rfl rfl (.n 11 2 rfl) h10) rfl rfl ?_
   refine lo (.off rfl rfl (.n 11 3 rfl) h10) rfl rfl ?_
   refine lo (.off rfl rfl (.n 11 4 rfl) h10) rfl rfl ?_
   refine lo (.off rfl rfl (.n 11 5 rfl) h10) rfl rfl ?_
   refine lv (.plain rfl) rfl rfl (opv_pick_t rfl (Ev.eq (.t (.n 11 6 rfl))) h10 (Ev.eq .b)) ?_
   refine lv (.plain rfl) rfl rfl (opv_move rfl (Ev.eq (.t .here))) ?_
   refine lo (.off rfl rfl .here rfl) rfl rfl ?_
   refine lo (.off rfl rfl (.n 19 1 rfl) rfl) rfl rfl ?_
   refine lo (.off rfl rfl (.n 19 2 rfl) rfl) rfl rfl ?_
   refine lo (.off rfl rfl (.n 19 3 rfl) rfl) rfl rfl ?_
   refine lo (.off rfl rfl (.n 19 4 rfl) rfl) rfl rfl ?_
   refine lo (.off rfl rfl (.n 19 5 rfl) rfl) rfl rfl ?_
   refine lo (.off rfl rfl (.n 19 6 rfl) rfl) rfl rfl ?_
   refine lv (.plain rfl) rfl rfl (opv_pick_t rfl (Ev.eq (.t (.n 19 7 rfl))) rfl (Ev.eq .b)) ?_
   refine awpL_nil ?_
   refine pcond_t (.t .here) rfl ?_
   refine awp_seq ?_
   refine awp_region ?_
   refine lv (.plain rfl) rfl rfl (opv_assign rfl (Ev.eq .b)) ?_
   refine awpL_nil ?_
   refine awp_ret ?_
   refine ret_now (.one (rv_t .here)) (Cast.all _ _) ?_
   refine ⟨congrArg (fun x => AV.d (D.b x)) ?_, rfl⟩
   rw [sameT]
   first | (rw [sameL_len (by omega)]; simp) | (simp_all; done) | (simp_all; omega)
  ·
   have q10 := h10
   try simp only [zs, List.length_map, encTries_len, bl_inj] at q10
   refine lv (.on rfl rfl .here h10) rfl rfl (p_field (fldT25_1) rfl (Ev.eq (.t (.n 2 8 rfl))) (off' := 1) rfl) ?_
   refine lv (.on rfl rfl (.n 11 1 rfl) h10) rfl rfl (q_load1 (scT22) rfl (Ev.eq (.t .here)) (.there .here) (.there .here)) ?_
   refine lv (.on rfl rfl (.n 11 2 rfl) h10) rfl rfl (p_field (fldT25_1) rfl (Ev.eq (.t (.n 3 9 rfl))) (off' := 1) rfl) ?_
   refine lv (.on rfl rfl (.n 11 3 rfl) h10) rfl rfl (q_load1 (scT22) rfl (Ev.eq (.t .here)) .here (.there .here)) ?_
   refine lv (.on rfl rfl (.n 11 4 rfl) h10) rfl rfl (q_call rfl .f Tryd.call26 (.cons (.t (.n 13 2 rfl)) (.cons (.t .here) .nil)) rfl (f26_spec _ _)) ?_
   refine lv (.on rfl rfl (.n 11 5 rfl) h10) rfl rfl (opv_not rfl (Ev.eq (.t .here)) rfl) ?_
   refine lv (.plain rfl) rfl rfl (opv_pick_f rfl (Ev.eq (.t (.n 11 6 rfl))) h10 (Ev.eq (.t .here))) ?_
   refine lv (.plain rfl) rfl rfl (opv_move rfl (Ev.eq (.t .here))) ?_
   refine lsplit (.n 16 3 rfl) (fun h16 => ?_) (fun h16 => ?_)
   ·
    have q16 := h16
    try simp only [zs, List.length_map, encTries_len, bl_inj] at q16
    refine lv (.on rfl rfl .here (congrArg not h16)) rfl rfl (p_field (fldT25_2) rfl (Ev.eq (.t (.n 2 16 rfl))) (off' := 2) rfl) ?_
    refine lv (.on rfl rfl (.n 19 1 rfl) (congrArg not h16)) rfl rfl (q_load1 (scT23) rfl (Ev.eq (.t .here)) (.there .here) (.there (.there .here))) ?_
    refine lv (.on rfl rfl (.n 19 2 rfl) (congrArg not h16)) rfl rfl (opv_len_sl Tryd.underlying23 rfl (Ev.eq (.t .here)) rfl) ?_
    refine lv (.on rfl rfl (.n 19 3 rfl) (congrArg not h16)) rfl rfl (p_field (fldT25_2) rfl (Ev.eq (.t (.n 3 18 rfl))) (off' := 2) rfl) ?_
    refine lv (.on rfl rfl (.n 19 4 rfl) (congrArg not h16)) rfl rfl (q_load1 (scT23) rfl (Ev.eq (.t .here)) .here (.there (.there .here))) ?_
    refine lv (.on rfl rfl (.n 19 5 rfl) (congrArg not h16)) rfl rfl (opv_len_sl Tryd.underlying23 rfl (Ev.eq (.t .here)) rfl) ?_
    refine lv (.on rfl rfl (.n 19 6 rfl) (congrArg not h16)) rfl rfl (opv_neq_i rfl (Ev.eq (.t (.n 22 3 rfl))) (Ev.eq (.t .here)) rfl) ?_
    refine lv (.plain rfl) rfl rfl (opv_pick_f rfl (Ev.eq (.t (.n 19 7 rfl))) (congrArg not h16) (Ev.eq (.t .here))) ?_
    refine awpL_nil ?_
    refine psplit (.n 26 1 rfl) (fun h26 => ?_) (fun h26 => ?_)
    ·
     have q26 := h26
     try simp only [zs, List.length_map, encTries_len, bl_inj] at q26
     refine pcond_t (.t .here) h26 ?_
     refine awp_seq ?_
     refine awp_region ?_
     refine lv (.plain rfl) rfl rfl (opv_assign rfl (Ev.eq .b)) ?_
     refine awpL_nil ?_
     refine awp_ret ?_
     refine ret_now (.one (rv_t .here)) (Cast.all _ _) ?_
     refine ⟨congrArg (fun x => AV.d (D.b x)) ?_, rfl⟩
     rw [sameT]
     first | (rw [sameL_len (by omega)]; simp) | (simp_all; done) | (simp_all; omega)
    ·
     have q26 := h26
     try simp only [zs, List.length_map, encTries_len, bl_inj] at q26
     refine pcond_f (.t .here) h26 ?_
     refine awp_skip ?_
     refine awp_seq ?_
     refine awp_seq ?_
     refine awp_region ?_
     refine lv (.plain rfl) rfl rfl (opv_assign rfl (Ev.eq .i)) ?_
     refine awpL_nil ?_
     refine awp_block ?_
     have hll : ks.length = ks'.length := by omega
     refine ploop (fun (i : Nat) => ⟨47, [(2, .ptr g1 0), (3, .ptr g2 0), (5, .d (.i .i64 (i : Int)))], [(g2, .var 25 [.d (.s l'), .d (dRows r'), .d (.sl (encTries ks'))]), (g1, .var 25 [.d (.s l), .d (dRows r), .d (.sl (encTries ks))])], []⟩) (fun i => i ≤ ks.length ∧ sameL (ks.drop i) (ks'.drop i) = sameL ks ks') (fun i => ks.length - i) (0) (weak_both (.ce (.n 2 25 rfl) (by first | rfl | (simp; done) | (simp; omega)) (.ce (.n 3 24 rfl) (by first | rfl | (simp; done) | (simp; omega)) (.ce .here (by first | rfl | (simp; done) | (simp; omega)) .nil))) (List.Sublist.refl _)) (⟨by omega, rfl⟩) ?_
     rintro i ⟨hi, hEQ⟩
     refine awp_seq ?_
     refine awp_seq ?_
     refine awp_region ?_
     refine lv (.plain rfl) rfl rfl (opv_move rfl (Ev.eq (.t (.n 5 2 rfl)))) ?_
     refine lv (.plain rfl) rfl rfl (p_field (fldT25_2) rfl (Ev.eq (.t (.n 2 1 rfl))) (off' := 2) rfl) ?_
     refine lv (.plain rfl) rfl rfl (q_load1 (scT23) rfl (Ev.eq (.t .here)) (.there .here) (.there (.there .here))) ?_
     refine lv (.plain rfl) rfl rfl (opv_len_sl Tryd.underlying23 rfl (Ev.eq (.t .here)) rfl) ?_
     refine lv (.plain rfl) rfl rfl (opv_lss rfl (Ev.eq (.t (.n 28 3 rfl))) (Ev.eq (.t .here)) rfl) ?_
     refine awpL_nil ?_
     refine psplit .here (fun h32 => ?_) (fun h32 => ?_)
     ·
      have q32 := h32
      try simp only [zs, List.length_map, encTries_len, bl_inj] at q32
      refine pcond_t (.t .here) h32 ?_
      refine awp_skip ?_
      refine awp_seq ?_
      refine awp_block ?_
      refine awp_seq ?_
      refine g_draw mixed (kb_cons (.head _) (kb_cons (.tail _ (.head _)) kb_nil)) (by kernel_rfl) (fuel := 12) rfl rfl ?_
      refine g_v (listed' := bs 12 1) 0 rfl (by kernel_rfl) rfl (fun _ => .plain rfl) rfl (fun _ hK => p_field (fldT25_2) rfl (Ev.eq (.t (.n 2 5 rfl))) (off' := 2) rfl) (kb_cons (.head _) (kb_cons (.tail _ (.head _)) kb_nil)) ?_
      refine g_v (listed' := bs 12 3) 1 rfl (by kernel_rfl) rfl (fun _ => .plain rfl) rfl (fun _ hK => m_load1 (scT23) rfl (Ev.eq (.t .here)) (hK _ (.tail _ (.head _))) (.there (.there .here))) (kb_cons (.head _) (kb_cons (.tail _ (.head _)) kb_nil)) ?_
      refine g_v (listed' := bs 12 7) 2 rfl (by kernel_rfl) rfl (fun _ => .plain rfl) rfl (fun _ hK => opv_move rfl (Ev.eq (.t (.n 5 9 rfl)))) (kb_cons (.head _) (kb_cons (.tail _ (.head _)) kb_nil)) ?_
      obtain ⟨x, hx⟩ := some_at (l := ks) (i := i) (by omega)
      obtain ⟨y, hy⟩ := some_at (l := ks') (i := i) (by omega)
      obtain ⟨xl, xr, xk⟩ := x
      obtain ⟨yl, yr, yk⟩ := y
      refine g_v (listed' := bs 12 15) 3 rfl (by kernel_rfl) rfl (fun _ => .plain rfl) rfl (fun _ hK => p_index (slT23) rfl (Ev.eq (.t (.n 36 1 rfl))) (Ev.eq (.t .here)) (by omega) (by first | assumption | exact map_at (by assumption) | exact encTries_at (by assumption)) rfl) (kb_cons (.head _) (kb_cons (.tail _ (.head _)) kb_nil)) ?_
      refine g_v (listed' := bs 12 31) 4 rfl (by kernel_rfl) rfl (fun _ => .plain rfl) rfl (fun _ hK => p_loadnf (agT25) rfl (Ev.eq (.t .here)) (Nat.le_of_ble_eq_true rfl) rfl) (kb_cons (.head _) (kb_cons (.tail _ (.head _)) kb_nil)) ?_
      refine g_v (listed' := bs 12 63) 5 rfl (by kernel_rfl) rfl (fun _ => .plain rfl) rfl (fun _ hK => p_field (fldT25_2) rfl (Ev.eq (.t (.n 3 11 rfl))) (off' := 2) rfl) (kb_cons (.head _) (kb_cons (.tail _ (.head _)) kb_nil)) ?_
      refine g_v (listed' := bs 12 127) 6 rfl (by kernel_rfl) rfl (fun _ => .plain rfl) rfl (fun _ hK => m_load1 (scT23) rfl (Ev.eq (.t .here)) (hK _ (.head _)) (.there (.there .here))) (kb_cons (.head _) (kb_cons (.tail _ (.head _)) kb_nil)) ?_
      refine g_v (listed' := bs 12 255) 7 rfl (by kernel_rfl) rfl (fun _ => .plain rfl) rfl (fun _ hK => opv_move rfl (Ev.eq (.t (.n 5 14 rfl)))) (kb_cons (.head _) (kb_cons (.tail _ (.head _)) kb_nil)) ?_
      refine g_v (listed' := bs 12 511) 8 rfl (by kernel_rfl) rfl (fun _ => .plain rfl) rfl (fun _ hK => p_index (slT23) rfl (Ev.eq (.t (.n 41 1 rfl))) (Ev.eq (.t .here)) (by omega) (by first | assumption | exact map_at (by assumption) | exact encTries_at (by assumption)) rfl) (kb_cons (.head _) (kb_cons (.tail _ (.head _)) kb_nil)) ?_
      refine g_v (listed' := bs 12 1023) 9 rfl (by kernel_rfl) rfl (fun _ => .plain rfl) rfl (fun _ hK => p_loadnf (agT25) rfl (Ev.eq (.t .here)) (Nat.le_of_ble_eq_true rfl) rfl) (kb_cons (.head _) (kb_cons (.tail _ (.head _)) kb_nil)) ?_
      refine g_v (listed' := bs 12 2047) 10 rfl (by kernel_rfl) rfl (fun _ => .plain rfl) rfl (fun _ hK => q_call rfl .f Tryd.call12 (.cons (.t (.n 39 5 rfl)) (.cons (.t .here) .nil)) rfl (ih (.mk xl xr xk) (List.mem_of_getElem? hx) (.mk yl yr yk) (labs_mem hlab4 (List.mem_of_getElem? hx)))) (kb_cons (.head _) (kb_cons (.tail _ (.head _)) kb_nil)) ?_
      refine g_v (listed' := bs 12 4095) 11 rfl (by kernel_rfl) rfl (fun _ => .plain rfl) rfl (fun _ hK => opv_not rfl (Ev.eq (.t .here)) rfl) (kb_cons (.head _) (kb_cons (.tail _ (.head _)) kb_nil)) ?_
      refine g_end (by kernel_rfl) ?_
      refine psplit (.n 45 1 rfl) (fun h45 => ?_) (fun h45 => ?_)
      ·
       have q45 := h45
       try simp only [zs, List.length_map, encTries_len, bl_inj] at q45
       refine pcond_f (.t .here) (congrArg not h45) ?_
       refine awp_skip ?_
       refine awp_region ?_
       refine lv (.plain rfl) rfl rfl (opv_move rfl (Ev.eq (.t (.n 5 19 rfl)))) ?_
       refine lv (.plain rfl) rfl rfl (opv_add rfl (Ev.eq (.t .here)) (Ev.eq .i) (wr64 (by omega) (by omega)) rfl) ?_
       refine lv (.plain rfl) rfl rfl (opv_assign rfl (Ev.eq (.t .here))) ?_
       refine awpL_nil ?_
       refine ⟨i + 1, by omega, ⟨by omega, by rw [drop_cons hx, drop_cons hy, sameL] at hEQ; simp_all⟩, weak_both (.ce (.n 2 20 rfl) (by first | rfl | (simp; done) | (simp; omega)) (.ce (.n 3 21 rfl) (by first | rfl | (simp; done) | (simp; omega)) (.ce .here (by first | rfl | (simp; done) | (simp; omega)) .nil))) (List.Sublist.refl _)⟩
      ·
       have q45 := h45
       try simp only [zs, List.length_map, encTries_len, bl_inj] at q45
       refine pcond_t (.t .here) (congrArg not h45) ?_
       refine awp_seq ?_
       refine awp_region ?_
       refine lv (.plain rfl) rfl rfl (opv_assign rfl (Ev.eq .b)) ?_
       refine awpL_nil ?_
       refine awp_ret ?_
       refine ret_now (.one (rv_t .here)) (Cast.all _ _) ?_
       refine ⟨congrArg (fun x => AV.d (D.b x)) ?_, rfl⟩
       rw [sameT]
       rw [drop_cons hx, drop_cons hy, sameL] at hEQ
       rw [← hEQ]
       simp_all
     ·
      have q32 := h32
      try simp only [zs, List.length_map, encTries_len, bl_inj] at q32
      refine pcond_f (.t .here) h32 ?_
      refine awp_exit ?_
      refine awp_seq ?_
      refine awp_region ?_
      refine lv (.plain rfl) rfl rfl (opv_assign rfl (Ev.eq .b)) ?_
      refine awpL_nil ?_
      refine awp_ret ?_
      refine ret_now (.one (rv_t .here)) (Cast.all _ _) ?_
      refine ⟨congrArg (fun x => AV.d (D.b x)) ?_, rfl⟩
      rw [sameT]
      obtain rfl : i = ks.length := by omega
      rw [List.drop_length, hll, List.drop_length, sameL] at hEQ
      rw [← hEQ]
      simp_all
   ·
    have q16 := h16
    try simp only [zs, List.length_map, encTries_len, bl_inj] at q16
    refine lo (.off rfl rfl .here (congrArg not h16)) rfl rfl ?_
    refine lo (.off rfl rfl (.n 19 1 rfl) (congrArg not h16)) rfl rfl ?_
    refine lo (.off rfl rfl (.n 19 2 rfl) (congrArg not h16)) rfl rfl ?_
    refine lo (.off rfl rfl (.n 19 3 rfl) (congrArg not h16)) rfl rfl ?_
    refine lo (.off rfl rfl (.n 19 4 rfl) (congrArg not h16)) rfl rfl ?_
    refine lo (.off rfl rfl (.n 19 5 rfl) (congrArg not h16)) rfl rfl ?_
    refine lo (.off rfl rfl (.n 19 6 rfl) (congrArg not h16)) rfl rfl ?_
    refine lv (.plain rfl) rfl rfl (opv_pick_t rfl (Ev.eq (.t (.n 19 7 rfl))) (congrArg not h16) (Ev.eq .b)) ?_
    refine awpL_nil ?_
    refine pcond_t (.t .here) rfl ?_
    refine awp_seq ?_
    refine awp_region ?_
    refine lv (.plain rfl) rfl rfl (opv_assign rfl (Ev.eq .b)) ?_
    refine awpL_nil ?_
    refine awp_ret ?_
    refine ret_now (.one (rv_t .here)) (Cast.all _ _) ?_
    refine ⟨congrArg (fun x => AV.d (D.b x)) ?_, rfl⟩
    rw [sameT]
    first | (rw [sameL_len (by omega)]; simp) | (simp_all; done) | (simp_all; omega)
def bads (A B C : List Ent) (l : List ByteArray) : List ByteArray := l.filter (fun q => badF (getL A q) (getL B q) (getL C q))
def gots (A B C : List Ent) (l : List ByteArray) : List Ent := l.flatMap (fun q => if pickF (getL A q) (getL B q) (getL C q) = [] then [] else [⟨q, pickF (getL A q) (getL B q) (getL C q)⟩])
theorem bads_step {A B C : List Ent} {l : List ByteArray} {i : Nat} {q : ByteArray} (h : l[i]? = some q) : bads A B C (l.take (i + 1)) = bads A B C (l.take i) ++ (if badF (getL A q) (getL B q) (getL C q) then [q] else []) := by
  unfold bads
  rw [List.take_add_one, h, List.filter_append]
  congr 1
  by_cases hb : badF (getL A q) (getL B q) (getL C q) = true <;> simp [hb]
theorem gots_step {A B C : List Ent} {l : List ByteArray} {i : Nat} {q : ByteArray} (h : l[i]? = some q) : gots A B C (l.take (i + 1)) = gots A B C (l.take i) ++ (if pickF (getL A q) (getL B q) (getL C q) = [] then [] else [⟨q, pickF (getL A q) (getL B q) (getL C q)⟩]) := by
  unfold gots
  rw [List.take_add_one, h, List.flatMap_append]
  congr 1
  simp
theorem bads_len (A B C : List Ent) (l : List ByteArray) : (bads A B C l).length ≤ l.length := List.length_filter_le _ _
theorem gots_len (A B C : List Ent) : ∀ (l : List ByteArray), (gots A B C l).length ≤ l.length
  | [] => by simp [gots]
  | q :: l => by
    have := gots_len A B C l
    show ((if pickF (getL A q) (getL B q) (getL C q) = [] then [] else [(⟨q, pickF (getL A q) (getL B q) (getL C q)⟩ : Ent)]) ++ gots A B C l).length ≤ _
    rw [List.length_append, List.length_cons]
    split <;> simp <;> omega
theorem pathsF_len : ∀ (es : List Ent) (out : List ByteArray), (pathsF out es).length ≤ out.length + es.length
  | [], out => by simp [pathsF]
  | e :: r, out => by
    have h1 := pathsF_len r (insGo e.path out false)
    have h2 := (insGo_len e.path out false).1
    simp at h2
    rw [pathsF, List.length_cons]
    omega
theorem entriesR_len (t : Trie) (h : t.cnt ≤ 100000) : (entriesR t).length ≤ 100000 := by
  unfold entriesR
  split
  · have := ents_len t ⟨#[]⟩; omega
  · simp
theorem f11_spec (ta tb tc : Trie) (hca : ta.cnt ≤ 100000) (hcb : tb.cnt ≤ 100000) (hcc : tc.cnt ≤ 100000) : FSpec Tryd.prog 11 [aTrie ta, aTrie tb, aTrie tc] (.tup [aTrie (mergeR ta tb tc).t, .d (dStrs (mergeR ta tb tc).bad), .d (.i .i64 (mergeR ta tb tc).e)]) := by
  have hla := entriesR_len ta hca
  have hlb := entriesR_len tb hcb
  have hlc := entriesR_len tc hcc
  have hp1 : ([] : List ByteArray).length + (entriesR ta).length ≤ 1000000000 := by simp; omega
  have hq1 := pathsF_len (entriesR ta) []
  have hp2 : (pathsF [] (entriesR ta)).length + (entriesR tb).length ≤ 1000000000 := by simp at hq1; omega
  have hq2 := pathsF_len (entriesR tb) (pathsF [] (entriesR ta))
  have hp3 : (pathsF (pathsF [] (entriesR ta)) (entriesR tb)).length + (entriesR tc).length ≤ 1000000000 := by simp at hq1; omega
  have hq3 : (allP (entriesR ta) (entriesR tb) (entriesR tc)).length ≤ 300000 := by have := pathsF_len (entriesR tc) (pathsF (pathsF [] (entriesR ta)) (entriesR tb)); simp at hq1; unfold allP; omega
  obtain ⟨la, ra, ka, Eta⟩ : ∃ l r k, ta = Trie.mk l r k := by cases ta; exact ⟨_, _, _, rfl⟩
  have ATa : aTrie ta = .agg [.d (.s la), .d (dRows ra), .d (.sl (encTries ka))] := by rw [Eta]; rfl
  obtain ⟨lb, rb, kb, Etb⟩ : ∃ l r k, tb = Trie.mk l r k := by cases tb; exact ⟨_, _, _, rfl⟩
  have ATb : aTrie tb = .agg [.d (.s lb), .d (dRows rb), .d (.sl (encTries kb))] := by rw [Etb]; rfl
  obtain ⟨lc, rc, kc, Etc⟩ : ∃ l r k, tc = Trie.mk l r k := by cases tc; exact ⟨_, _, _, rfl⟩
  have ATc : aTrie tc = .agg [.d (.s lc), .d (dRows rc), .d (.sl (encTries kc))] := by rw [Etc]; rfl
  rw [ATa, ATb, ATc]
  refine acalls_of Tryd.func11 rfl Tryd.ntmps11 Tryd.results11 (by simp) ?_
  refine awp_seq ?_
  refine awp_region ?_
  refine l_box (.plain rfl) rfl rfl rfl (.t .here) rfl rfl (fun g1 ng1 => ?_)
  refine l_box (.plain rfl) rfl rfl rfl (.t (.n 1 2 rfl)) rfl rfl (fun g2 ng2 => ?_)
  refine l_box (.plain rfl) rfl rfl rfl (.t (.n 2 4 rfl)) rfl rfl (fun g3 ng3 => ?_)
  refine l_alloc zT25 (.plain rfl) rfl rfl rfl (fun g4 ng4 => ?_)
  refine lv (.plain rfl) rfl rfl (opv_assign rfl (Ev.eq .n)) ?_
  refine lv (.plain rfl) rfl rfl (opv_assign rfl (Ev.eq .i)) ?_
  refine awpL_nil ?_
  refine awp_seq ?_
  refine awp_seq ?_
  refine awp_region ?_
  refine lv (.plain rfl) rfl rfl (q_loadn (agT25) rfl (Ev.eq (.t (.n 3 5 rfl))) (.there (.there (.there .here))) rfl) ?_
  refine lv (.plain rfl) rfl rfl (q_call rfl .f Tryd.call35 (.cons (.t .here) .nil) rfl (by have := f35_spec ta; rw [ATa] at this; exact this)) ?_
  refine lv (.plain rfl) rfl rfl (opv_not rfl (Ev.eq (.t .here)) rfl) ?_
  refine lv (.plain rfl) rfl rfl (opv_move rfl (Ev.eq (.t .here))) ?_
  refine lsplit (.n 18 2 rfl) (fun h18 => ?_) (fun h18 => ?_)
  ·
   have q18 := h18
   try simp only [zs, List.length_map] at q18
   refine lv (.on rfl rfl .here (congrArg not h18)) rfl rfl (q_loadn (agT25) rfl (Ev.eq (.t (.n 4 8 rfl))) (.there (.there .here)) rfl) ?_
   refine lv (.on rfl rfl (.n 20 1 rfl) (congrArg not h18)) rfl rfl (q_call rfl .f Tryd.call35 (.cons (.t .here) .nil) rfl (by have := f35_spec tb; rw [ATb] at this; exact this)) ?_
   refine lv (.on rfl rfl (.n 20 2 rfl) (congrArg not h18)) rfl rfl (opv_not rfl (Ev.eq (.t .here)) rfl) ?_
   refine lv (.plain rfl) rfl rfl (opv_pick_f rfl (Ev.eq (.t (.n 20 3 rfl))) (congrArg not h18) (Ev.eq (.t .here))) ?_
   refine lv (.plain rfl) rfl rfl (opv_move rfl (Ev.eq (.t .here))) ?_
   refine lsplit (.n 22 3 rfl) (fun h22 => ?_) (fun h22 => ?_)
   ·
    have q22 := h22
    try simp only [zs, List.length_map] at q22
    refine lv (.on rfl rfl .here (congrArg not h22)) rfl rfl (q_loadn (agT25) rfl (Ev.eq (.t (.n 5 12 rfl))) (.there .here) rfl) ?_
    refine lv (.on rfl rfl (.n 25 1 rfl) (congrArg not h22)) rfl rfl (q_call rfl .f Tryd.call35 (.cons (.t .here) .nil) rfl (by have := f35_spec tc; rw [ATc] at this; exact this)) ?_
    refine lv (.on rfl rfl (.n 25 2 rfl) (congrArg not h22)) rfl rfl (opv_not rfl (Ev.eq (.t .here)) rfl) ?_
    refine lv (.plain rfl) rfl rfl (opv_pick_f rfl (Ev.eq (.t (.n 25 3 rfl))) (congrArg not h22) (Ev.eq (.t .here))) ?_
    refine awpL_nil ?_
    refine psplit (.n 27 2 rfl) (fun h27 => ?_) (fun h27 => ?_)
    ·
     have q27 := h27
     try simp only [zs, List.length_map] at q27
     refine pcond_f (.t .here) (congrArg not h27) ?_
     refine awp_skip ?_
     refine awp_seq ?_
     have hra : rightB ta = true := h18
     have hrb : rightB tb = true := h22
     have hrc : rightB tc = true := h27
     refine g_draw mixed (kb_cons (.tail _ (.head _)) (kb_cons (.tail _ (.tail _ (.head _))) (kb_cons (.tail _ (.tail _ (.tail _ (.head _)))) kb_nil))) (by kernel_rfl) (fuel := 10) rfl rfl ?_
     refine g_v (listed' := bs 10 1) 0 rfl (by kernel_rfl) rfl (fun _ => .plain rfl) rfl (fun _ hK => m_loadn (agT25) rfl (Ev.eq (.t (.n 3 18 rfl))) (hK _ (.tail _ (.tail _ (.head _)))) rfl) (kb_cons (.tail _ (.head _)) (kb_cons (.tail _ (.tail _ (.head _))) (kb_cons (.tail _ (.tail _ (.tail _ (.head _)))) kb_nil))) ?_
     refine g_v (listed' := bs 10 3) 1 rfl (by kernel_rfl) rfl (fun _ => .plain rfl) rfl (fun _ hK => q_call rfl .f Tryd.call37 (.cons (.t .here) .nil) rfl (by have := f37_spec ta (by omega); rw [ATa] at this; exact this)) (kb_cons (.tail _ (.head _)) (kb_cons (.tail _ (.tail _ (.head _))) (kb_cons (.tail _ (.tail _ (.tail _ (.head _)))) kb_nil))) ?_
     refine g_v (listed' := bs 10 7) 2 rfl (by kernel_rfl) rfl (fun _ => .plain rfl) rfl (fun _ hK => q_call_z rfl .f Tryd.call36 (.cons .n (.cons (.t .here) .nil)) rfl (.cons .nil (.cons .refl .nil)) (f36_spec [] (entriesR ta) hp1)) (kb_cons (.tail _ (.head _)) (kb_cons (.tail _ (.tail _ (.head _))) (kb_cons (.tail _ (.tail _ (.tail _ (.head _)))) kb_nil))) ?_
     refine g_v (listed' := bs 10 15) 3 rfl (by kernel_rfl) rfl (fun _ => .plain rfl) rfl (fun _ hK => m_loadn (agT25) rfl (Ev.eq (.t (.n 4 20 rfl))) (hK _ (.tail _ (.head _))) rfl) (kb_cons (.tail _ (.head _)) (kb_cons (.tail _ (.tail _ (.head _))) (kb_cons (.tail _ (.tail _ (.tail _ (.head _)))) kb_nil))) ?_
     refine g_v (listed' := bs 10 31) 4 rfl (by kernel_rfl) rfl (fun _ => .plain rfl) rfl (fun _ hK => q_call rfl .f Tryd.call37 (.cons (.t .here) .nil) rfl (by have := f37_spec tb (by omega); rw [ATb] at this; exact this)) (kb_cons (.tail _ (.head _)) (kb_cons (.tail _ (.tail _ (.head _))) (kb_cons (.tail _ (.tail _ (.tail _ (.head _)))) kb_nil))) ?_
     refine g_v (listed' := bs 10 63) 5 rfl (by kernel_rfl) rfl (fun _ => .plain rfl) rfl (fun _ hK => q_call rfl .f Tryd.call36 (.cons (.t (.n 33 2 rfl)) (.cons (.t .here) .nil)) rfl (f36_spec _ (entriesR tb) hp2)) (kb_cons (.tail _ (.head _)) (kb_cons (.tail _ (.tail _ (.head _))) (kb_cons (.tail _ (.tail _ (.tail _ (.head _)))) kb_nil))) ?_
     refine g_v (listed' := bs 10 127) 6 rfl (by kernel_rfl) rfl (fun _ => .plain rfl) rfl (fun _ hK => m_loadn (agT25) rfl (Ev.eq (.t (.n 5 22 rfl))) (hK _ (.head _)) rfl) (kb_cons (.tail _ (.head _)) (kb_cons (.tail _ (.tail _ (.head _))) (kb_cons (.tail _ (.tail _ (.tail _ (.head _)))) kb_nil))) ?_
     refine g_v (listed' := bs 10 255) 7 rfl (by kernel_rfl) rfl (fun _ => .plain rfl) rfl (fun _ hK => q_call rfl .f Tryd.call37 (.cons (.t .here) .nil) rfl (by have := f37_spec tc (by omega); rw [ATc] at this; exact this)) (kb_cons (.tail _ (.head _)) (kb_cons (.tail _ (.tail _ (.head _))) (kb_cons (.tail _ (.tail _ (.tail _ (.head _)))) kb_nil))) ?_
     refine g_v (listed' := bs 10 511) 8 rfl (by kernel_rfl) rfl (fun _ => .plain rfl) rfl (fun _ hK => q_call rfl .f Tryd.call36 (.cons (.t (.n 36 2 rfl)) (.cons (.t .here) .nil)) rfl (f36_spec _ (entriesR tc) hp3)) (kb_cons (.tail _ (.head _)) (kb_cons (.tail _ (.tail _ (.head _))) (kb_cons (.tail _ (.tail _ (.tail _ (.head _)))) kb_nil))) ?_
     refine g_v (listed' := bs 10 1023) 9 rfl (by kernel_rfl) rfl (fun _ => .plain rfl) rfl (fun _ hK => opv_assign rfl (Ev.eq (.t .here))) (kb_cons (.tail _ (.head _)) (kb_cons (.tail _ (.tail _ (.head _))) (kb_cons (.tail _ (.tail _ (.tail _ (.head _)))) kb_nil))) ?_
     refine g_end (by kernel_rfl) ?_
     refine awp_seq ?_
     refine awp_region ?_
     refine lv (.plain rfl) rfl rfl (opv_assign rfl (Ev.eq .n)) ?_
     refine awpL_nil ?_
     refine awp_seq ?_
     refine awp_region ?_
     refine lv (.plain rfl) rfl rfl (opv_assign rfl (Ev.eq .n)) ?_
     refine awpL_nil ?_
     refine awp_seq ?_
     refine awp_seq ?_
     refine awp_region ?_
     refine lv (.plain rfl) rfl rfl (opv_assign rfl (Ev.eq .i)) ?_
     refine awpL_nil ?_
     refine awp_block ?_
     refine ploop (fun (a : Nat × Acc × Acc) => ⟨105, [(3, .ptr g1 0), (4, .ptr g2 0), (5, .ptr g3 0), (6, .ptr g4 0), (9, .d (dStrs (allP (entriesR ta) (entriesR tb) (entriesR tc)))), (10, accV a.2.1), (11, accV a.2.2), (12, .d (.i .i64 (a.1 : Int)))], (g4, .var 25 [.d (.s ⟨#[]⟩), .nil, .nil]) :: (g3, .var 25 [.d (.s lc), .d (dRows rc), .d (.sl (encTries kc))]) :: (g2, .var 25 [.d (.s lb), .d (dRows rb), .d (.sl (encTries kb))]) :: (g1, .var 25 [.d (.s la), .d (dRows ra), .d (.sl (encTries ka))]) :: (accH 9 1 a.2.1 ++ accH 43 2 a.2.2), []⟩) (fun a => a.1 ≤ (allP (entriesR ta) (entriesR tb) (entriesR tc)).length ∧ a.2.1.rows = cellsOf encS (bads (entriesR ta) (entriesR tb) (entriesR tc) ((allP (entriesR ta) (entriesR tb) (entriesR tc)).take a.1)) ∧ a.2.2.rows = cellsOf encEnt (gots (entriesR ta) (entriesR tb) (entriesR tc) ((allP (entriesR ta) (entriesR tb) (entriesR tc)).take a.1))) (fun a => (allP (entriesR ta) (entriesR tb) (entriesR tc)).length - a.1) ((0, Acc.none, Acc.none)) (weak_both (.ce (.n 3 31 rfl) (by first | rfl | (simp; done) | (simp; omega)) (.ce (.n 4 30 rfl) (by first | rfl | (simp; done) | (simp; omega)) (.ce (.n 5 29 rfl) (by first | rfl | (simp; done) | (simp; omega)) (.ce (.n 6 28 rfl) (by first | rfl | (simp; done) | (simp; omega)) (.ce (.n 9 3 rfl) (by first | rfl | (simp; done) | (simp; omega)) (.ce (.n 10 2 rfl) (by first | rfl | (simp; done) | (simp; omega)) (.ce (.n 11 1 rfl) (by first | rfl | (simp; done) | (simp; omega)) (.ce .here (by first | rfl | (simp; done) | (simp; omega)) .nil)))))))) (List.Sublist.refl _)) (⟨by dsimp only; omega, rfl, rfl⟩) ?_
     rintro ⟨i, ab, al⟩ ⟨hi, hab, hal⟩
     dsimp only at hi hab hal
     refine awp_seq ?_
     refine awp_seq ?_
     refine awp_region ?_
     refine lv (.plain rfl) rfl rfl (opv_move rfl (Ev.eq (.t (.n 12 7 rfl)))) ?_
     refine lv (.plain rfl) rfl rfl (opv_move rfl (Ev.eq (.t (.n 9 5 rfl)))) ?_
     refine lv (.plain rfl) rfl rfl (opv_len_sl Tryd.underlying28 rfl (Ev.eq (.t .here)) rfl) ?_
     refine lv (.plain rfl) rfl rfl (opv_lss rfl (Ev.eq (.t (.n 40 2 rfl))) (Ev.eq (.t .here)) rfl) ?_
     refine awpL_nil ?_
     refine psplit .here (fun h43 => ?_) (fun h43 => ?_)
     ·
      have q43 := h43
      try simp only [zs, List.length_map] at q43
      refine pcond_t (.t .here) h43 ?_
      refine awp_skip ?_
      refine awp_seq ?_
      refine awp_block ?_
      refine awp_seq ?_
      refine g_draw mixed (kb_cons (.tail _ (.head _)) (kb_cons (.tail _ (.tail _ (.head _))) (kb_cons (.tail _ (.tail _ (.tail _ (.head _)))) kb_nil))) (by kernel_rfl) (fuel := 21) rfl rfl ?_
      refine g_v (listed' := bs 21 1) 0 rfl (by kernel_rfl) rfl (fun _ => .plain rfl) rfl (fun _ hK => m_loadn (agT25) rfl (Ev.eq (.t (.n 3 4 rfl))) (hK _ (.tail _ (.tail _ (.head _)))) rfl) (kb_cons (.tail _ (.head _)) (kb_cons (.tail _ (.tail _ (.head _))) (kb_cons (.tail _ (.tail _ (.tail _ (.head _)))) kb_nil))) ?_
      refine g_v (listed' := bs 21 3) 1 rfl (by kernel_rfl) rfl (fun _ => .plain rfl) rfl (fun _ hK => opv_move rfl (Ev.eq (.t (.n 9 9 rfl)))) (kb_cons (.tail _ (.head _)) (kb_cons (.tail _ (.tail _ (.head _))) (kb_cons (.tail _ (.tail _ (.tail _ (.head _)))) kb_nil))) ?_
      refine g_v (listed' := bs 21 7) 2 rfl (by kernel_rfl) rfl (fun _ => .plain rfl) rfl (fun _ hK => opv_move rfl (Ev.eq (.t (.n 12 13 rfl)))) (kb_cons (.tail _ (.head _)) (kb_cons (.tail _ (.tail _ (.head _))) (kb_cons (.tail _ (.tail _ (.tail _ (.head _)))) kb_nil))) ?_
      obtain ⟨q, hq⟩ := some_at (l := (allP (entriesR ta) (entriesR tb) (entriesR tc))) (i := i) (by omega)
      refine g_v (listed' := bs 21 15) 3 rfl (by kernel_rfl) rfl (fun _ => .plain rfl) rfl (fun _ hK => p_index (slT28) rfl (Ev.eq (.t (.n 47 1 rfl))) (Ev.eq (.t .here)) (by omega) (by exact map_at hq) rfl) (kb_cons (.tail _ (.head _)) (kb_cons (.tail _ (.tail _ (.head _))) (kb_cons (.tail _ (.tail _ (.tail _ (.head _)))) kb_nil))) ?_
      refine g_v (listed' := bs 21 31) 4 rfl (by kernel_rfl) rfl (fun _ => .plain rfl) rfl (fun _ hK => p_load1f (scT9) rfl (Ev.eq (.t .here))) (kb_cons (.tail _ (.head _)) (kb_cons (.tail _ (.tail _ (.head _))) (kb_cons (.tail _ (.tail _ (.tail _ (.head _)))) kb_nil))) ?_
      refine g_v (listed' := bs 21 63) 5 rfl (by kernel_rfl) rfl (fun _ => .plain rfl) rfl (fun _ hK => q_call rfl .f Tryd.call38 (.cons (.t (.n 46 4 rfl)) (.cons (.t .here) .nil)) rfl (by have := f38_spec ta q (by omega); rw [ATa] at this; exact this)) (kb_cons (.tail _ (.head _)) (kb_cons (.tail _ (.tail _ (.head _))) (kb_cons (.tail _ (.tail _ (.tail _ (.head _)))) kb_nil))) ?_
      refine g_v (listed' := bs 21 127) 6 rfl (by kernel_rfl) rfl (fun _ => .plain rfl) rfl (fun _ hK => m_loadn (agT25) rfl (Ev.eq (.t (.n 4 11 rfl))) (hK _ (.tail _ (.head _))) rfl) (kb_cons (.tail _ (.head _)) (kb_cons (.tail _ (.tail _ (.head _))) (kb_cons (.tail _ (.tail _ (.tail _ (.head _)))) kb_nil))) ?_
      refine g_v (listed' := bs 21 255) 7 rfl (by kernel_rfl) rfl (fun _ => .plain rfl) rfl (fun _ hK => opv_move rfl (Ev.eq (.t (.n 9 15 rfl)))) (kb_cons (.tail _ (.head _)) (kb_cons (.tail _ (.tail _ (.head _))) (kb_cons (.tail _ (.tail _ (.tail _ (.head _)))) kb_nil))) ?_
      refine g_v (listed' := bs 21 511) 8 rfl (by kernel_rfl) rfl (fun _ => .plain rfl) rfl (fun _ hK => opv_move rfl (Ev.eq (.t (.n 12 19 rfl)))) (kb_cons (.tail _ (.head _)) (kb_cons (.tail _ (.tail _ (.head _))) (kb_cons (.tail _ (.tail _ (.tail _ (.head _)))) kb_nil))) ?_
      refine g_v (listed' := bs 21 1023) 9 rfl (by kernel_rfl) rfl (fun _ => .plain rfl) rfl (fun _ hK => p_index (slT28) rfl (Ev.eq (.t (.n 53 1 rfl))) (Ev.eq (.t .here)) (by omega) (by exact map_at hq) rfl) (kb_cons (.tail _ (.head _)) (kb_cons (.tail _ (.tail _ (.head _))) (kb_cons (.tail _ (.tail _ (.tail _ (.head _)))) kb_nil))) ?_
      refine g_v (listed' := bs 21 2047) 10 rfl (by kernel_rfl) rfl (fun _ => .plain rfl) rfl (fun _ hK => p_load1f (scT9) rfl (Ev.eq (.t .here))) (kb_cons (.tail _ (.head _)) (kb_cons (.tail _ (.tail _ (.head _))) (kb_cons (.tail _ (.tail _ (.tail _ (.head _)))) kb_nil))) ?_
      refine g_v (listed' := bs 21 4095) 11 rfl (by kernel_rfl) rfl (fun _ => .plain rfl) rfl (fun _ hK => q_call rfl .f Tryd.call38 (.cons (.t (.n 52 4 rfl)) (.cons (.t .here) .nil)) rfl (by have := f38_spec tb q (by omega); rw [ATb] at this; exact this)) (kb_cons (.tail _ (.head _)) (kb_cons (.tail _ (.tail _ (.head _))) (kb_cons (.tail _ (.tail _ (.tail _ (.head _)))) kb_nil))) ?_
      refine g_v (listed' := bs 21 8191) 12 rfl (by kernel_rfl) rfl (fun _ => .plain rfl) rfl (fun _ hK => m_loadn (agT25) rfl (Ev.eq (.t (.n 5 18 rfl))) (hK _ (.head _)) rfl) (kb_cons (.tail _ (.head _)) (kb_cons (.tail _ (.tail _ (.head _))) (kb_cons (.tail _ (.tail _ (.tail _ (.head _)))) kb_nil))) ?_
      refine g_v (listed' := bs 21 16383) 13 rfl (by kernel_rfl) rfl (fun _ => .plain rfl) rfl (fun _ hK => opv_move rfl (Ev.eq (.t (.n 9 21 rfl)))) (kb_cons (.tail _ (.head _)) (kb_cons (.tail _ (.tail _ (.head _))) (kb_cons (.tail _ (.tail _ (.tail _ (.head _)))) kb_nil))) ?_
      refine g_v (listed' := bs 21 32767) 14 rfl (by kernel_rfl) rfl (fun _ => .plain rfl) rfl (fun _ hK => opv_move rfl (Ev.eq (.t (.n 12 25 rfl)))) (kb_cons (.tail _ (.head _)) (kb_cons (.tail _ (.tail _ (.head _))) (kb_cons (.tail _ (.tail _ (.tail _ (.head _)))) kb_nil))) ?_
      refine g_v (listed' := bs 21 65535) 15 rfl (by kernel_rfl) rfl (fun _ => .plain rfl) rfl (fun _ hK => p_index (slT28) rfl (Ev.eq (.t (.n 59 1 rfl))) (Ev.eq (.t .here)) (by omega) (by exact map_at hq) rfl) (kb_cons (.tail _ (.head _)) (kb_cons (.tail _ (.tail _ (.head _))) (kb_cons (.tail _ (.tail _ (.tail _ (.head _)))) kb_nil))) ?_
      refine g_v (listed' := bs 21 131071) 16 rfl (by kernel_rfl) rfl (fun _ => .plain rfl) rfl (fun _ hK => p_load1f (scT9) rfl (Ev.eq (.t .here))) (kb_cons (.tail _ (.head _)) (kb_cons (.tail _ (.tail _ (.head _))) (kb_cons (.tail _ (.tail _ (.tail _ (.head _)))) kb_nil))) ?_
      refine g_v (listed' := bs 21 262143) 17 rfl (by kernel_rfl) rfl (fun _ => .plain rfl) rfl (fun _ hK => q_call rfl .f Tryd.call38 (.cons (.t (.n 58 4 rfl)) (.cons (.t .here) .nil)) rfl (by have := f38_spec tc q (by omega); rw [ATc] at this; exact this)) (kb_cons (.tail _ (.head _)) (kb_cons (.tail _ (.tail _ (.head _))) (kb_cons (.tail _ (.tail _ (.tail _ (.head _)))) kb_nil))) ?_
      refine g_v (listed' := bs 21 524287) 18 rfl (by kernel_rfl) rfl (fun _ => .plain rfl) rfl (fun _ hK => opv_assign rfl (Ev.eq (.t (.n 51 12 rfl)))) (kb_cons (.tail _ (.head _)) (kb_cons (.tail _ (.tail _ (.head _))) (kb_cons (.tail _ (.tail _ (.tail _ (.head _)))) kb_nil))) ?_
      refine g_v (listed' := bs 21 1048575) 19 rfl (by kernel_rfl) rfl (fun _ => .plain rfl) rfl (fun _ hK => opv_assign rfl (Ev.eq (.t (.n 57 7 rfl)))) (kb_cons (.tail _ (.head _)) (kb_cons (.tail _ (.tail _ (.head _))) (kb_cons (.tail _ (.tail _ (.tail _ (.head _)))) kb_nil))) ?_
      refine g_v (listed' := bs 21 2097151) 20 rfl (by kernel_rfl) rfl (fun _ => .plain rfl) rfl (fun _ hK => opv_assign rfl (Ev.eq (.t (.n 63 2 rfl)))) (kb_cons (.tail _ (.head _)) (kb_cons (.tail _ (.tail _ (.head _))) (kb_cons (.tail _ (.tail _ (.tail _ (.head _)))) kb_nil))) ?_
      refine g_end (by kernel_rfl) ?_
      refine awp_seq ?_
      refine awp_region ?_
      refine lv (.plain rfl) rfl rfl (opv_move rfl (Ev.eq (.t (.n 14 1 rfl)))) ?_
      refine lv (.plain rfl) rfl rfl (opv_assign rfl (Ev.eq (.t .here))) ?_
      refine awpL_nil ?_
      refine awp_seq ?_
      refine awp_block ?_
      refine awp_seq ?_
      refine awp_region ?_
      refine lv (.plain rfl) rfl rfl (opv_move rfl (Ev.eq (.t (.n 14 3 rfl)))) ?_
      refine lv (.plain rfl) rfl rfl (opv_move rfl (Ev.eq (.t (.n 15 3 rfl)))) ?_
      refine lv (.plain rfl) rfl rfl (q_call rfl .f Tryd.call26 (.cons (.t (.n 66 1 rfl)) (.cons (.t .here) .nil)) rfl (f26_spec _ _)) ?_
      refine lv (.plain rfl) rfl rfl (opv_assign rfl (Ev.eq (.t .here))) ?_
      refine awpL_nil ?_
      refine psplit (.n 68 1 rfl) (fun h68 => ?_) (fun h68 => ?_)
      ·
       have q68 := h68
       try simp only [zs, List.length_map] at q68
       refine pcond_t (.t .here) h68 ?_
       refine awp_skip ?_
       refine awp_seq ?_
       refine awp_region ?_
       refine lv (.plain rfl) rfl rfl (opv_move rfl (Ev.eq (.t (.n 16 4 rfl)))) ?_
       refine lv (.plain rfl) rfl rfl (opv_len_sl Tryd.underlying22 rfl (Ev.eq (.t .here)) rfl) ?_
       refine lv (.plain rfl) rfl rfl (opv_gtr rfl (Ev.eq (.t .here)) (Ev.eq .i) rfl) ?_
       refine awpL_nil ?_
       refine psplit .here (fun h88 => ?_) (fun h88 => ?_)
       ·
        have q88 := h88
        try simp only [zs, List.length_map] at q88
        refine pcond_t (.t .here) h88 ?_
        refine awp_region ?_
        refine lv (.plain rfl) rfl rfl (opv_move rfl (Ev.eq (.t (.n 11 40 rfl)))) ?_
        refine lv (.plain rfl) rfl rfl (opv_move rfl (Ev.eq (.t (.n 9 39 rfl)))) ?_
        refine lv (.plain rfl) rfl rfl (opv_move rfl (Ev.eq (.t (.n 12 43 rfl)))) ?_
        refine lv (.plain rfl) rfl rfl (p_index (slT28) rfl (Ev.eq (.t (.n 90 1 rfl))) (Ev.eq (.t .here)) (by omega) (by exact map_at hq) rfl) ?_
        refine lv (.plain rfl) rfl rfl (p_load1f (scT9) rfl (Ev.eq (.t .here))) ?_
        refine lv (.plain rfl) rfl rfl (opv_move rfl (Ev.eq (.t (.n 16 12 rfl)))) ?_
        refine lv (.plain rfl) rfl rfl (p_build (bldT43) rfl (.cons (.t (.n 93 1 rfl)) (.cons (.t .here) .nil)) (by simp [AV.cs, AV.one]) (cs := [_, _]) rfl) ?_
        refine l_xd (.plain rfl) rfl rfl (x_buildSlice (cs := [_, _]) (rows := [[_, _]]) slT38 slZ38_1 rfl rfl rfl (.cons (.t .here) .nil) rfl rfl rfl rfl rfl) ?_
        rintro _ _ ⟨g11, ng11, rfl, rfl⟩
        have hbl2 := gots_len (entriesR ta) (entriesR tb) (entriesR tc) ((allP (entriesR ta) (entriesR tb) (entriesR tc)).take i)
        rw [List.length_take] at hbl2
        refine l_xd (.plain rfl) rfl rfl (x_append (acc := al) (rows := [_]) (hf := (_ :: _ :: _ :: _ :: _ :: accH 9 1 ab)) apT38 rfl (.t (.n 89 7 rfl)) (.t .here) rfl (.head _) rfl rfl (by rw [hal, cellsOf_len]; simp; omega)) ?_
        rintro _ _ ⟨acc12, hacc12, rfl, rfl⟩
        dsimp only [List.cons_append, List.nil_append]
        refine lv (.plain rfl) rfl rfl (opv_assign rfl (Ev.eq (.t .here))) ?_
        refine awpL_nil ?_
        refine awp_region ?_
        refine lv (.plain rfl) rfl rfl (opv_move rfl (Ev.eq (.t (.n 12 51 rfl)))) ?_
        refine lv (.plain rfl) rfl rfl (opv_add rfl (Ev.eq (.t .here)) (Ev.eq .i) (wr64 (by omega) (by omega)) rfl) ?_
        refine lv (.plain rfl) rfl rfl (opv_assign rfl (Ev.eq (.t .here))) ?_
        refine awpL_nil ?_
        have hpk : pickF (getL (entriesR ta) q) (getL (entriesR tb) q) (getL (entriesR tc) q) = (getL (entriesR tb) q) := if_pos q68
        have hbd : badF (getL (entriesR ta) q) (getL (entriesR tb) q) (getL (entriesR tc) q) = false := decide_eq_false (fun h => h.1 q68)
        have hne : ¬ (getL (entriesR tb) q) = [] := fun h => by rw [h] at q88; simp at q88
        refine ⟨(i + 1, ab, acc12), by dsimp only; omega, ⟨by dsimp only; omega, by dsimp only; rw [bads_step hq, hbd, if_neg (by simp), List.append_nil]; exact hab, by dsimp only; rw [hacc12, hal, gots_step hq, hpk, if_neg hne, cellsOf_append]; rfl⟩, weak_both (.ce (.n 3 47 rfl) (by first | rfl | (simp; done) | (simp; omega)) (.ce (.n 4 48 rfl) (by first | rfl | (simp; done) | (simp; omega)) (.ce (.n 5 49 rfl) (by first | rfl | (simp; done) | (simp; omega)) (.ce (.n 6 50 rfl) (by first | rfl | (simp; done) | (simp; omega)) (.ce (.n 9 51 rfl) (by first | rfl | (simp; done) | (simp; omega)) (.ce (.n 10 52 rfl) (by first | rfl | (simp; done) | (simp; omega)) (.ce (.n 11 3 rfl) (by first | rfl | (simp; done) | (simp; omega)) (.ce .here (by first | rfl | (simp; done) | (simp; omega)) .nil)))))))) (.cons _ (List.Sublist.refl _))⟩
       ·
        have q88 := h88
        try simp only [zs, List.length_map] at q88
        refine pcond_f (.t .here) h88 ?_
        refine awp_skip ?_
        refine awp_region ?_
        refine lv (.plain rfl) rfl rfl (opv_move rfl (Ev.eq (.t (.n 12 41 rfl)))) ?_
        refine lv (.plain rfl) rfl rfl (opv_add rfl (Ev.eq (.t .here)) (Ev.eq .i) (wr64 (by omega) (by omega)) rfl) ?_
        refine lv (.plain rfl) rfl rfl (opv_assign rfl (Ev.eq (.t .here))) ?_
        refine awpL_nil ?_
        have hpk : pickF (getL (entriesR ta) q) (getL (entriesR tb) q) (getL (entriesR tc) q) = (getL (entriesR tb) q) := if_pos q68
        have hbd : badF (getL (entriesR ta) q) (getL (entriesR tb) q) (getL (entriesR tc) q) = false := decide_eq_false (fun h => h.1 q68)
        have hnil : (getL (entriesR tb) q) = [] := List.eq_nil_of_length_eq_zero (by omega)
        refine ⟨(i + 1, ab, al), by dsimp only; omega, ⟨by dsimp only; omega, by dsimp only; rw [bads_step hq, hbd, if_neg (by simp), List.append_nil]; exact hab, by dsimp only; rw [gots_step hq, hpk, if_pos hnil, List.append_nil]; exact hal⟩, weak_both (.ce (.n 3 37 rfl) (by first | rfl | (simp; done) | (simp; omega)) (.ce (.n 4 38 rfl) (by first | rfl | (simp; done) | (simp; omega)) (.ce (.n 5 39 rfl) (by first | rfl | (simp; done) | (simp; omega)) (.ce (.n 6 40 rfl) (by first | rfl | (simp; done) | (simp; omega)) (.ce (.n 9 41 rfl) (by first | rfl | (simp; done) | (simp; omega)) (.ce (.n 10 42 rfl) (by first | rfl | (simp; done) | (simp; omega)) (.ce (.n 11 43 rfl) (by first | rfl | (simp; done) | (simp; omega)) (.ce .here (by first | rfl | (simp; done) | (simp; omega)) .nil)))))))) (List.Sublist.refl _)⟩
      ·
       have q68 := h68
       try simp only [zs, List.length_map] at q68
       refine pcond_f (.t .here) h68 ?_
       refine awp_seq ?_
       refine awp_region ?_
       refine lv (.plain rfl) rfl rfl (opv_move rfl (Ev.eq (.t (.n 13 8 rfl)))) ?_
       refine lv (.plain rfl) rfl rfl (opv_move rfl (Ev.eq (.t (.n 14 8 rfl)))) ?_
       refine lv (.plain rfl) rfl rfl (q_call rfl .f Tryd.call26 (.cons (.t (.n 70 1 rfl)) (.cons (.t .here) .nil)) rfl (f26_spec _ _)) ?_
       refine lv (.plain rfl) rfl rfl (opv_assign rfl (Ev.eq (.t .here))) ?_
       refine awpL_nil ?_
       refine psplit (.n 72 1 rfl) (fun h72 => ?_) (fun h72 => ?_)
       ·
        have q72 := h72
        try simp only [zs, List.length_map] at q72
        refine pcond_t (.t .here) h72 ?_
        refine awp_region ?_
        refine lv (.plain rfl) rfl rfl (opv_move rfl (Ev.eq (.t (.n 15 10 rfl)))) ?_
        refine lv (.plain rfl) rfl rfl (opv_assign rfl (Ev.eq (.t .here))) ?_
        refine awpL_nil ?_
        refine awp_seq ?_
        refine awp_region ?_
        refine lv (.plain rfl) rfl rfl (opv_move rfl (Ev.eq (.t .here))) ?_
        refine lv (.plain rfl) rfl rfl (opv_len_sl Tryd.underlying22 rfl (Ev.eq (.t .here)) rfl) ?_
        refine lv (.plain rfl) rfl rfl (opv_gtr rfl (Ev.eq (.t .here)) (Ev.eq .i) rfl) ?_
        refine awpL_nil ?_
        refine psplit .here (fun h88 => ?_) (fun h88 => ?_)
        ·
         have q88 := h88
         try simp only [zs, List.length_map] at q88
         refine pcond_t (.t .here) h88 ?_
         refine awp_region ?_
         refine lv (.plain rfl) rfl rfl (opv_move rfl (Ev.eq (.t (.n 11 46 rfl)))) ?_
         refine lv (.plain rfl) rfl rfl (opv_move rfl (Ev.eq (.t (.n 9 45 rfl)))) ?_
         refine lv (.plain rfl) rfl rfl (opv_move rfl (Ev.eq (.t (.n 12 49 rfl)))) ?_
         refine lv (.plain rfl) rfl rfl (p_index (slT28) rfl (Ev.eq (.t (.n 90 1 rfl))) (Ev.eq (.t .here)) (by omega) (by exact map_at hq) rfl) ?_
         refine lv (.plain rfl) rfl rfl (p_load1f (scT9) rfl (Ev.eq (.t .here))) ?_
         refine lv (.plain rfl) rfl rfl (opv_move rfl (Ev.eq (.t (.n 16 8 rfl)))) ?_
         refine lv (.plain rfl) rfl rfl (p_build (bldT43) rfl (.cons (.t (.n 93 1 rfl)) (.cons (.t .here) .nil)) (by simp [AV.cs, AV.one]) (cs := [_, _]) rfl) ?_
         refine l_xd (.plain rfl) rfl rfl (x_buildSlice (cs := [_, _]) (rows := [[_, _]]) slT38 slZ38_1 rfl rfl rfl (.cons (.t .here) .nil) rfl rfl rfl rfl rfl) ?_
         rintro _ _ ⟨g17, ng17, rfl, rfl⟩
         have hbl2 := gots_len (entriesR ta) (entriesR tb) (entriesR tc) ((allP (entriesR ta) (entriesR tb) (entriesR tc)).take i)
         rw [List.length_take] at hbl2
         refine l_xd (.plain rfl) rfl rfl (x_append (acc := al) (rows := [_]) (hf := (_ :: _ :: _ :: _ :: _ :: accH 9 1 ab)) apT38 rfl (.t (.n 89 7 rfl)) (.t .here) rfl (.head _) rfl rfl (by rw [hal, cellsOf_len]; simp; omega)) ?_
         rintro _ _ ⟨acc18, hacc18, rfl, rfl⟩
         dsimp only [List.cons_append, List.nil_append]
         refine lv (.plain rfl) rfl rfl (opv_assign rfl (Ev.eq (.t .here))) ?_
         refine awpL_nil ?_
         refine awp_region ?_
         refine lv (.plain rfl) rfl rfl (opv_move rfl (Ev.eq (.t (.n 12 57 rfl)))) ?_
         refine lv (.plain rfl) rfl rfl (opv_add rfl (Ev.eq (.t .here)) (Ev.eq .i) (wr64 (by omega) (by omega)) rfl) ?_
         refine lv (.plain rfl) rfl rfl (opv_assign rfl (Ev.eq (.t .here))) ?_
         refine awpL_nil ?_
         have hpk : pickF (getL (entriesR ta) q) (getL (entriesR tb) q) (getL (entriesR tc) q) = (getL (entriesR tc) q) := (if_neg q68).trans (if_pos q72)
         have hbd : badF (getL (entriesR ta) q) (getL (entriesR tb) q) (getL (entriesR tc) q) = false := decide_eq_false (fun h => h.2.1 q72)
         have hne : ¬ (getL (entriesR tc) q) = [] := fun h => by rw [h] at q88; simp at q88
         refine ⟨(i + 1, ab, acc18), by dsimp only; omega, ⟨by dsimp only; omega, by dsimp only; rw [bads_step hq, hbd, if_neg (by simp), List.append_nil]; exact hab, by dsimp only; rw [hacc18, hal, gots_step hq, hpk, if_neg hne, cellsOf_append]; rfl⟩, weak_both (.ce (.n 3 53 rfl) (by first | rfl | (simp; done) | (simp; omega)) (.ce (.n 4 54 rfl) (by first | rfl | (simp; done) | (simp; omega)) (.ce (.n 5 55 rfl) (by first | rfl | (simp; done) | (simp; omega)) (.ce (.n 6 56 rfl) (by first | rfl | (simp; done) | (simp; omega)) (.ce (.n 9 57 rfl) (by first | rfl | (simp; done) | (simp; omega)) (.ce (.n 10 58 rfl) (by first | rfl | (simp; done) | (simp; omega)) (.ce (.n 11 3 rfl) (by first | rfl | (simp; done) | (simp; omega)) (.ce .here (by first | rfl | (simp; done) | (simp; omega)) .nil)))))))) (.cons _ (List.Sublist.refl _))⟩
        ·
         have q88 := h88
         try simp only [zs, List.length_map] at q88
         refine pcond_f (.t .here) h88 ?_
         refine awp_skip ?_
         refine awp_region ?_
         refine lv (.plain rfl) rfl rfl (opv_move rfl (Ev.eq (.t (.n 12 47 rfl)))) ?_
         refine lv (.plain rfl) rfl rfl (opv_add rfl (Ev.eq (.t .here)) (Ev.eq .i) (wr64 (by omega) (by omega)) rfl) ?_
         refine lv (.plain rfl) rfl rfl (opv_assign rfl (Ev.eq (.t .here))) ?_
         refine awpL_nil ?_
         have hpk : pickF (getL (entriesR ta) q) (getL (entriesR tb) q) (getL (entriesR tc) q) = (getL (entriesR tc) q) := (if_neg q68).trans (if_pos q72)
         have hbd : badF (getL (entriesR ta) q) (getL (entriesR tb) q) (getL (entriesR tc) q) = false := decide_eq_false (fun h => h.2.1 q72)
         have hnil : (getL (entriesR tc) q) = [] := List.eq_nil_of_length_eq_zero (by omega)
         refine ⟨(i + 1, ab, al), by dsimp only; omega, ⟨by dsimp only; omega, by dsimp only; rw [bads_step hq, hbd, if_neg (by simp), List.append_nil]; exact hab, by dsimp only; rw [gots_step hq, hpk, if_pos hnil, List.append_nil]; exact hal⟩, weak_both (.ce (.n 3 43 rfl) (by first | rfl | (simp; done) | (simp; omega)) (.ce (.n 4 44 rfl) (by first | rfl | (simp; done) | (simp; omega)) (.ce (.n 5 45 rfl) (by first | rfl | (simp; done) | (simp; omega)) (.ce (.n 6 46 rfl) (by first | rfl | (simp; done) | (simp; omega)) (.ce (.n 9 47 rfl) (by first | rfl | (simp; done) | (simp; omega)) (.ce (.n 10 48 rfl) (by first | rfl | (simp; done) | (simp; omega)) (.ce (.n 11 49 rfl) (by first | rfl | (simp; done) | (simp; omega)) (.ce .here (by first | rfl | (simp; done) | (simp; omega)) .nil)))))))) (List.Sublist.refl _)⟩
       ·
        have q72 := h72
        try simp only [zs, List.length_map] at q72
        refine pcond_f (.t .here) h72 ?_
        refine awp_seq ?_
        refine awp_region ?_
        refine lv (.plain rfl) rfl rfl (opv_move rfl (Ev.eq (.t (.n 13 12 rfl)))) ?_
        refine lv (.plain rfl) rfl rfl (opv_move rfl (Ev.eq (.t (.n 15 11 rfl)))) ?_
        refine lv (.plain rfl) rfl rfl (q_call rfl .f Tryd.call26 (.cons (.t (.n 75 1 rfl)) (.cons (.t .here) .nil)) rfl (f26_spec _ _)) ?_
        refine lv (.plain rfl) rfl rfl (opv_not rfl (Ev.eq (.t .here)) rfl) ?_
        refine lv (.plain rfl) rfl rfl (opv_assign rfl (Ev.eq (.t .here))) ?_
        refine awpL_nil ?_
        refine psplit (.n 77 2 rfl) (fun h77 => ?_) (fun h77 => ?_)
        ·
         have q77 := h77
         try simp only [zs, List.length_map] at q77
         refine pcond_f (.t .here) (congrArg not h77) ?_
         refine awp_skip ?_
         refine awp_seq ?_
         refine awp_region ?_
         refine lv (.plain rfl) rfl rfl (opv_move rfl (Ev.eq (.t (.n 16 13 rfl)))) ?_
         refine lv (.plain rfl) rfl rfl (opv_len_sl Tryd.underlying22 rfl (Ev.eq (.t .here)) rfl) ?_
         refine lv (.plain rfl) rfl rfl (opv_gtr rfl (Ev.eq (.t .here)) (Ev.eq .i) rfl) ?_
         refine awpL_nil ?_
         refine psplit .here (fun h88 => ?_) (fun h88 => ?_)
         ·
          have q88 := h88
          try simp only [zs, List.length_map] at q88
          refine pcond_t (.t .here) h88 ?_
          refine awp_region ?_
          refine lv (.plain rfl) rfl rfl (opv_move rfl (Ev.eq (.t (.n 11 49 rfl)))) ?_
          refine lv (.plain rfl) rfl rfl (opv_move rfl (Ev.eq (.t (.n 9 48 rfl)))) ?_
          refine lv (.plain rfl) rfl rfl (opv_move rfl (Ev.eq (.t (.n 12 52 rfl)))) ?_
          refine lv (.plain rfl) rfl rfl (p_index (slT28) rfl (Ev.eq (.t (.n 90 1 rfl))) (Ev.eq (.t .here)) (by omega) (by exact map_at hq) rfl) ?_
          refine lv (.plain rfl) rfl rfl (p_load1f (scT9) rfl (Ev.eq (.t .here))) ?_
          refine lv (.plain rfl) rfl rfl (opv_move rfl (Ev.eq (.t (.n 16 21 rfl)))) ?_
          refine lv (.plain rfl) rfl rfl (p_build (bldT43) rfl (.cons (.t (.n 93 1 rfl)) (.cons (.t .here) .nil)) (by simp [AV.cs, AV.one]) (cs := [_, _]) rfl) ?_
          refine l_xd (.plain rfl) rfl rfl (x_buildSlice (cs := [_, _]) (rows := [[_, _]]) slT38 slZ38_1 rfl rfl rfl (.cons (.t .here) .nil) rfl rfl rfl rfl rfl) ?_
          rintro _ _ ⟨g23, ng23, rfl, rfl⟩
          have hbl2 := gots_len (entriesR ta) (entriesR tb) (entriesR tc) ((allP (entriesR ta) (entriesR tb) (entriesR tc)).take i)
          rw [List.length_take] at hbl2
          refine l_xd (.plain rfl) rfl rfl (x_append (acc := al) (rows := [_]) (hf := (_ :: _ :: _ :: _ :: _ :: accH 9 1 ab)) apT38 rfl (.t (.n 89 7 rfl)) (.t .here) rfl (.head _) rfl rfl (by rw [hal, cellsOf_len]; simp; omega)) ?_
          rintro _ _ ⟨acc24, hacc24, rfl, rfl⟩
          dsimp only [List.cons_append, List.nil_append]
          refine lv (.plain rfl) rfl rfl (opv_assign rfl (Ev.eq (.t .here))) ?_
          refine awpL_nil ?_
          refine awp_region ?_
          refine lv (.plain rfl) rfl rfl (opv_move rfl (Ev.eq (.t (.n 12 60 rfl)))) ?_
          refine lv (.plain rfl) rfl rfl (opv_add rfl (Ev.eq (.t .here)) (Ev.eq .i) (wr64 (by omega) (by omega)) rfl) ?_
          refine lv (.plain rfl) rfl rfl (opv_assign rfl (Ev.eq (.t .here))) ?_
          refine awpL_nil ?_
          have hpk : pickF (getL (entriesR ta) q) (getL (entriesR tb) q) (getL (entriesR tc) q) = (getL (entriesR tb) q) := (if_neg q68).trans (if_neg q72)
          have hbd : badF (getL (entriesR ta) q) (getL (entriesR tb) q) (getL (entriesR tc) q) = false := decide_eq_false (fun h => h.2.2 q77)
          have hne : ¬ (getL (entriesR tb) q) = [] := fun h => by rw [h] at q88; simp at q88
          refine ⟨(i + 1, ab, acc24), by dsimp only; omega, ⟨by dsimp only; omega, by dsimp only; rw [bads_step hq, hbd, if_neg (by simp), List.append_nil]; exact hab, by dsimp only; rw [hacc24, hal, gots_step hq, hpk, if_neg hne, cellsOf_append]; rfl⟩, weak_both (.ce (.n 3 56 rfl) (by first | rfl | (simp; done) | (simp; omega)) (.ce (.n 4 57 rfl) (by first | rfl | (simp; done) | (simp; omega)) (.ce (.n 5 58 rfl) (by first | rfl | (simp; done) | (simp; omega)) (.ce (.n 6 59 rfl) (by first | rfl | (simp; done) | (simp; omega)) (.ce (.n 9 60 rfl) (by first | rfl | (simp; done) | (simp; omega)) (.ce (.n 10 61 rfl) (by first | rfl | (simp; done) | (simp; omega)) (.ce (.n 11 3 rfl) (by first | rfl | (simp; done) | (simp; omega)) (.ce .here (by first | rfl | (simp; done) | (simp; omega)) .nil)))))))) (.cons _ (List.Sublist.refl _))⟩
         ·
          have q88 := h88
          try simp only [zs, List.length_map] at q88
          refine pcond_f (.t .here) h88 ?_
          refine awp_skip ?_
          refine awp_region ?_
          refine lv (.plain rfl) rfl rfl (opv_move rfl (Ev.eq (.t (.n 12 50 rfl)))) ?_
          refine lv (.plain rfl) rfl rfl (opv_add rfl (Ev.eq (.t .here)) (Ev.eq .i) (wr64 (by omega) (by omega)) rfl) ?_
          refine lv (.plain rfl) rfl rfl (opv_assign rfl (Ev.eq (.t .here))) ?_
          refine awpL_nil ?_
          have hpk : pickF (getL (entriesR ta) q) (getL (entriesR tb) q) (getL (entriesR tc) q) = (getL (entriesR tb) q) := (if_neg q68).trans (if_neg q72)
          have hbd : badF (getL (entriesR ta) q) (getL (entriesR tb) q) (getL (entriesR tc) q) = false := decide_eq_false (fun h => h.2.2 q77)
          have hnil : (getL (entriesR tb) q) = [] := List.eq_nil_of_length_eq_zero (by omega)
          refine ⟨(i + 1, ab, al), by dsimp only; omega, ⟨by dsimp only; omega, by dsimp only; rw [bads_step hq, hbd, if_neg (by simp), List.append_nil]; exact hab, by dsimp only; rw [gots_step hq, hpk, if_pos hnil, List.append_nil]; exact hal⟩, weak_both (.ce (.n 3 46 rfl) (by first | rfl | (simp; done) | (simp; omega)) (.ce (.n 4 47 rfl) (by first | rfl | (simp; done) | (simp; omega)) (.ce (.n 5 48 rfl) (by first | rfl | (simp; done) | (simp; omega)) (.ce (.n 6 49 rfl) (by first | rfl | (simp; done) | (simp; omega)) (.ce (.n 9 50 rfl) (by first | rfl | (simp; done) | (simp; omega)) (.ce (.n 10 51 rfl) (by first | rfl | (simp; done) | (simp; omega)) (.ce (.n 11 52 rfl) (by first | rfl | (simp; done) | (simp; omega)) (.ce .here (by first | rfl | (simp; done) | (simp; omega)) .nil)))))))) (List.Sublist.refl _)⟩
        ·
         have q77 := h77
         try simp only [zs, List.length_map] at q77
         refine pcond_t (.t .here) (congrArg not h77) ?_
         refine awp_region ?_
         refine lv (.plain rfl) rfl rfl (opv_move rfl (Ev.eq (.t (.n 10 45 rfl)))) ?_
         refine lv (.plain rfl) rfl rfl (opv_move rfl (Ev.eq (.t (.n 9 45 rfl)))) ?_
         refine lv (.plain rfl) rfl rfl (opv_move rfl (Ev.eq (.t (.n 12 49 rfl)))) ?_
         refine lv (.plain rfl) rfl rfl (p_index (slT28) rfl (Ev.eq (.t (.n 80 1 rfl))) (Ev.eq (.t .here)) (by omega) (by exact map_at hq) rfl) ?_
         refine lv (.plain rfl) rfl rfl (p_load1f (scT9) rfl (Ev.eq (.t .here))) ?_
         refine l_xd (.plain rfl) rfl rfl (x_buildSlice (cs := [_]) (rows := [[_]]) slT28 slZ28_1 rfl rfl rfl (.cons (.t .here) .nil) rfl rfl rfl rfl rfl) ?_
         rintro _ _ ⟨g27, ng27, rfl, rfl⟩
         have hbl1 := bads_len (entriesR ta) (entriesR tb) (entriesR tc) ((allP (entriesR ta) (entriesR tb) (entriesR tc)).take i)
         rw [List.length_take] at hbl1
         refine l_xd (.plain rfl) rfl rfl (opx_perm ((((((List.perm_append_comm (l₁ := accH 9 1 ab) (l₂ := accH 43 2 al)).cons _).cons _).cons _).cons _).cons _) (x_append (acc := ab) (rows := [_]) (hf := (_ :: _ :: _ :: _ :: _ :: accH 43 2 al)) apT28 rfl (.t (.n 79 5 rfl)) (.t .here) rfl (.head _) rfl rfl (by rw [hab, cellsOf_len]; simp; omega))) ?_
         rintro _ _ ⟨acc28, hacc28, rfl, rfl⟩
         dsimp only [List.cons_append, List.nil_append]
         refine lv (.plain rfl) rfl rfl (opv_assign rfl (Ev.eq (.t .here))) ?_
         refine awpL_nil ?_
         refine awp_seq ?_
         refine awp_region ?_
         refine lv (.plain rfl) rfl rfl (opv_move rfl (Ev.eq (.t (.n 16 21 rfl)))) ?_
         refine lv (.plain rfl) rfl rfl (opv_len_sl Tryd.underlying22 rfl (Ev.eq (.t .here)) rfl) ?_
         refine lv (.plain rfl) rfl rfl (opv_gtr rfl (Ev.eq (.t .here)) (Ev.eq .i) rfl) ?_
         refine awpL_nil ?_
         refine psplit .here (fun h88 => ?_) (fun h88 => ?_)
         ·
          have q88 := h88
          try simp only [zs, List.length_map] at q88
          refine pcond_t (.t .here) h88 ?_
          refine awp_region ?_
          refine lv (.plain rfl) rfl rfl (opv_move rfl (Ev.eq (.t (.n 11 57 rfl)))) ?_
          refine lv (.plain rfl) rfl rfl (opv_move rfl (Ev.eq (.t (.n 9 56 rfl)))) ?_
          refine lv (.plain rfl) rfl rfl (opv_move rfl (Ev.eq (.t (.n 12 60 rfl)))) ?_
          refine lv (.plain rfl) rfl rfl (p_index (slT28) rfl (Ev.eq (.t (.n 90 1 rfl))) (Ev.eq (.t .here)) (by omega) (by exact map_at hq) rfl) ?_
          refine lv (.plain rfl) rfl rfl (p_load1f (scT9) rfl (Ev.eq (.t .here))) ?_
          refine lv (.plain rfl) rfl rfl (opv_move rfl (Ev.eq (.t (.n 16 29 rfl)))) ?_
          refine lv (.plain rfl) rfl rfl (p_build (bldT43) rfl (.cons (.t (.n 93 1 rfl)) (.cons (.t .here) .nil)) (by simp [AV.cs, AV.one]) (cs := [_, _]) rfl) ?_
          refine l_xd (.plain rfl) rfl rfl (x_buildSlice (cs := [_, _]) (rows := [[_, _]]) slT38 slZ38_1 rfl rfl rfl (.cons (.t .here) .nil) rfl rfl rfl rfl rfl) ?_
          rintro _ _ ⟨g30, ng30, rfl, rfl⟩
          have hbl2 := gots_len (entriesR ta) (entriesR tb) (entriesR tc) ((allP (entriesR ta) (entriesR tb) (entriesR tc)).take i)
          rw [List.length_take] at hbl2
          refine l_xd (.plain rfl) rfl rfl (opx_perm (((((((List.perm_append_comm (l₁ := accH 43 2 al) (l₂ := accH 9 1 acc28)).cons _).cons _).cons _).cons _).cons _).cons _) (x_append (acc := al) (rows := [_]) (hf := (_ :: _ :: _ :: _ :: _ :: _ :: accH 9 1 acc28)) apT38 rfl (.t (.n 89 7 rfl)) (.t .here) rfl (.head _) rfl rfl (by rw [hal, cellsOf_len]; simp; omega))) ?_
          rintro _ _ ⟨acc31, hacc31, rfl, rfl⟩
          dsimp only [List.cons_append, List.nil_append]
          refine lv (.plain rfl) rfl rfl (opv_assign rfl (Ev.eq (.t .here))) ?_
          refine awpL_nil ?_
          refine awp_region ?_
          refine lv (.plain rfl) rfl rfl (opv_move rfl (Ev.eq (.t (.n 12 68 rfl)))) ?_
          refine lv (.plain rfl) rfl rfl (opv_add rfl (Ev.eq (.t .here)) (Ev.eq .i) (wr64 (by omega) (by omega)) rfl) ?_
          refine lv (.plain rfl) rfl rfl (opv_assign rfl (Ev.eq (.t .here))) ?_
          refine awpL_nil ?_
          have hpk : pickF (getL (entriesR ta) q) (getL (entriesR tb) q) (getL (entriesR tc) q) = (getL (entriesR tb) q) := (if_neg q68).trans (if_neg q72)
          have hbd : badF (getL (entriesR ta) q) (getL (entriesR tb) q) (getL (entriesR tc) q) = true := decide_eq_true ⟨q68, q72, q77⟩
          have hne : ¬ (getL (entriesR tb) q) = [] := fun h => by rw [h] at q88; simp at q88
          refine ⟨(i + 1, acc28, acc31), by dsimp only; omega, ⟨by dsimp only; omega, by dsimp only; rw [hacc28, hab, bads_step hq, hbd, if_pos rfl, cellsOf_append]; rfl, by dsimp only; rw [hacc31, hal, gots_step hq, hpk, if_neg hne, cellsOf_append]; rfl⟩, weak_both (.ce (.n 3 64 rfl) (by first | rfl | (simp; done) | (simp; omega)) (.ce (.n 4 65 rfl) (by first | rfl | (simp; done) | (simp; omega)) (.ce (.n 5 66 rfl) (by first | rfl | (simp; done) | (simp; omega)) (.ce (.n 6 67 rfl) (by first | rfl | (simp; done) | (simp; omega)) (.ce (.n 9 68 rfl) (by first | rfl | (simp; done) | (simp; omega)) (.ce (.n 10 16 rfl) (by first | rfl | (simp; done) | (simp; omega)) (.ce (.n 11 3 rfl) (by first | rfl | (simp; done) | (simp; omega)) (.ce .here (by first | rfl | (simp; done) | (simp; omega)) .nil)))))))) (.cons _ (.cons _ (List.Sublist.refl _)))⟩
         ·
          have q88 := h88
          try simp only [zs, List.length_map] at q88
          refine pcond_f (.t .here) h88 ?_
          refine awp_skip ?_
          refine awp_region ?_
          refine lv (.plain rfl) rfl rfl (opv_move rfl (Ev.eq (.t (.n 12 58 rfl)))) ?_
          refine lv (.plain rfl) rfl rfl (opv_add rfl (Ev.eq (.t .here)) (Ev.eq .i) (wr64 (by omega) (by omega)) rfl) ?_
          refine lv (.plain rfl) rfl rfl (opv_assign rfl (Ev.eq (.t .here))) ?_
          refine awpL_nil ?_
          have hpk : pickF (getL (entriesR ta) q) (getL (entriesR tb) q) (getL (entriesR tc) q) = (getL (entriesR tb) q) := (if_neg q68).trans (if_neg q72)
          have hbd : badF (getL (entriesR ta) q) (getL (entriesR tb) q) (getL (entriesR tc) q) = true := decide_eq_true ⟨q68, q72, q77⟩
          have hnil : (getL (entriesR tb) q) = [] := List.eq_nil_of_length_eq_zero (by omega)
          refine ⟨(i + 1, acc28, al), by dsimp only; omega, ⟨by dsimp only; omega, by dsimp only; rw [hacc28, hab, bads_step hq, hbd, if_pos rfl, cellsOf_append]; rfl, by dsimp only; rw [gots_step hq, hpk, if_pos hnil, List.append_nil]; exact hal⟩, weak_p (.ce (.n 3 54 rfl) (by first | rfl | (simp; done) | (simp; omega)) (.ce (.n 4 55 rfl) (by first | rfl | (simp; done) | (simp; omega)) (.ce (.n 5 56 rfl) (by first | rfl | (simp; done) | (simp; omega)) (.ce (.n 6 57 rfl) (by first | rfl | (simp; done) | (simp; omega)) (.ce (.n 9 58 rfl) (by first | rfl | (simp; done) | (simp; omega)) (.ce (.n 10 6 rfl) (by first | rfl | (simp; done) | (simp; omega)) (.ce (.n 11 60 rfl) (by first | rfl | (simp; done) | (simp; omega)) (.ce .here (by first | rfl | (simp; done) | (simp; omega)) .nil)))))))) ((((((List.perm_append_comm (l₁ := accH 43 2 al) (l₂ := accH 9 1 acc28)).cons _).cons _).cons _).cons _).cons _) (.cons _ (List.Sublist.refl _))⟩
     ·
      have q43 := h43
      try simp only [zs, List.length_map] at q43
      refine pcond_f (.t .here) h43 ?_
      refine awp_exit ?_
      refine awp_seq ?_
      refine awp_seq ?_
      refine awp_region ?_
      refine lv (.plain rfl) rfl rfl (opv_move rfl (Ev.eq (.t (.n 10 9 rfl)))) ?_
      refine lv (.plain rfl) rfl rfl (q_len_acc Tryd.underlying28 rfl (Ev.eq (.t .here)) rfl) ?_
      refine lv (.plain rfl) rfl rfl (opv_gtr rfl (Ev.eq (.t .here)) (Ev.eq .i) rfl) ?_
      refine awpL_nil ?_
      refine psplit .here (fun h100 => ?_) (fun h100 => ?_)
      ·
       have q100 := h100
       try simp only [zs, List.length_map] at q100
       refine pcond_t (.t .here) h100 ?_
       refine awp_seq ?_
       refine awp_region ?_
       refine lv (.plain rfl) rfl rfl (p_build (bldT25) rfl .nil (by simp [AV.cs, AV.one]) (cs := [_, _, _]) rfl) ?_
       refine lv (.plain rfl) rfl rfl (opv_move rfl (Ev.eq (.t (.n 10 13 rfl)))) ?_
       refine l_storen Tryd.sizeOf25 (.plain rfl) rfl rfl (.t (.n 6 12 rfl)) (.t (.n 101 1 rfl)) rfl rfl rfl .here ?_
       refine lv (.plain rfl) rfl rfl (opv_assign rfl (Ev.eq (.t .here))) ?_
       refine lv (.plain rfl) rfl rfl (opv_assign rfl (Ev.eq .i)) ?_
       refine awpL_nil ?_
       refine awp_ret ?_
       obtain rfl : i = (allP (entriesR ta) (entriesR tb) (entriesR tc)).length := by omega
       rw [List.take_length] at hab hal
       have hfin : ab.rows = ((badsR (entriesR ta) (entriesR tb) (entriesR tc)).map encS).map (·.map AV.d) := by rw [hab]; rfl
       have hnb : ¬ badsR (entriesR ta) (entriesR tb) (entriesR tc) = [] := by intro h; rw [hab, show bads (entriesR ta) (entriesR tb) (entriesR tc) (allP (entriesR ta) (entriesR tb) (entriesR tc)) = badsR (entriesR ta) (entriesR tb) (entriesR tc) from rfl, h] at q100; simp [cellsOf] at q100
       refine ret_now (.three (rv_c (agT25) (.n 6 14 rfl) .here rfl) (rv_t (.n 7 1 rfl)) (rv_t .here)) (Cast.frz0 (.tup (.cons (.agg (.cons .refl (.cons .nil (.cons .nil .nil)))) (.cons (frz_acc (e := 9) (sz := 1) (xs := (badsR (entriesR ta) (entriesR tb) (entriesR tc)).map encS) (fun q hq => List.mem_cons_of_mem _ (List.mem_cons_of_mem _ (List.mem_cons_of_mem _ (List.mem_cons_of_mem _ (List.mem_append_left _ hq))))) hfin) (.cons .refl .nil))))) ?_
       rw [show mergeR ta tb tc = ⟨emptyT, badsR (entriesR ta) (entriesR tb) (entriesR tc), 19⟩ from by unfold mergeR; rw [if_neg (by rw [hra, hrb, hrc]; simp), if_neg hnb]]
       exact ⟨rfl, rfl⟩
      ·
       have q100 := h100
       try simp only [zs, List.length_map] at q100
       refine pcond_f (.t .here) h100 ?_
       refine awp_skip ?_
       refine awp_seq ?_
       obtain rfl : i = (allP (entriesR ta) (entriesR tb) (entriesR tc)).length := by omega
       rw [List.take_length] at hab hal
       have hnb : badsR (entriesR ta) (entriesR tb) (entriesR tc) = [] := by have h1 : (bads (entriesR ta) (entriesR tb) (entriesR tc) (allP (entriesR ta) (entriesR tb) (entriesR tc))).length = 0 := (by rw [hab, cellsOf_len] at q100; omega); exact List.eq_nil_of_length_eq_zero h1
       obtain ⟨t, ht1, ht2, ht3⟩ := merge_tree hra hrb hrc
       have hte := ht3 hnb
       have hlm := gots_len (entriesR ta) (entriesR tb) (entriesR tc) (allP (entriesR ta) (entriesR tb) (entriesR tc))
       refine pfrz (hz := accH 9 1 ab ++ accH 43 2 al) (h' := [_, _, _, _]) (List.perm_append_comm (l₁ := [_, _, _, _])) (.cons (.n 6 10 rfl) .refl (.cons (.n 11 13 rfl) (frz_acc (e := 43) (sz := 2) (xs := (t.ents ⟨#[]⟩).map encEnt) (fun q hq => List.mem_append_right _ hq) (by rw [hal, hte]; rfl)) .nil)) ?_
       refine awp_region ?_
       refine lv (.plain rfl) rfl rfl (opv_move rfl (Ev.eq (.t (.n 11 1 rfl)))) ?_
       refine lv (.plain rfl) rfl rfl (q_call rfl .f Tryd.call39 (.cons (.t .here) .nil) rfl (f39_spec ht1 (by rw [hte]; exact Nat.le_trans hlm (by omega)))) ?_
       refine l_storen Tryd.sizeOf25 (.plain rfl) rfl rfl (.t (.n 6 2 rfl)) (.t .here) rfl rfl rfl .here ?_
       refine lv (.plain rfl) rfl rfl (opv_assign rfl (Ev.eq .n)) ?_
       refine lv (.plain rfl) rfl rfl (opv_assign rfl (Ev.eq .i)) ?_
       refine awpL_nil ?_
       refine awp_ret ?_
       refine ret_now (.three (rv_c (agT25) (.n 6 4 rfl) .here rfl) (rv_t (.n 7 1 rfl)) (rv_t .here)) (Cast.frz0 (.tup (.cons .refl (.cons .nil (.cons .refl .nil))))) ?_
       rw [show mergeR ta tb tc = ⟨t, [], 0⟩ from by unfold mergeR; rw [if_neg (by rw [hra, hrb, hrc]; simp), if_pos hnb, ← hte, ofR_ents ht1]]
       exact ⟨rfl, rfl⟩
    ·
     have q27 := h27
     try simp only [zs, List.length_map] at q27
     refine pcond_t (.t .here) (congrArg not h27) ?_
     refine awp_seq ?_
     refine awp_region ?_
     refine lv (.plain rfl) rfl rfl (p_build (bldT25) rfl .nil (by simp [AV.cs, AV.one]) (cs := [_, _, _]) rfl) ?_
     refine l_storen Tryd.sizeOf25 (.plain rfl) rfl rfl (.t (.n 6 16 rfl)) (.t .here) rfl rfl rfl .here ?_
     refine lv (.plain rfl) rfl rfl (opv_assign rfl (Ev.eq .n)) ?_
     refine lv (.plain rfl) rfl rfl (opv_assign rfl (Ev.eq .i)) ?_
     refine awpL_nil ?_
     refine awp_ret ?_
     refine ret_now (.three (rv_c (agT25) (.n 6 18 rfl) .here rfl) (rv_t (.n 7 1 rfl)) (rv_t .here)) (Cast.frz0 (.tup (.cons (.agg (.cons .refl (.cons .nil (.cons .nil .nil)))) (.cons .nil (.cons .refl .nil))))) ?_
     rw [show mergeR ta tb tc = ⟨emptyT, [], 2⟩ from by unfold mergeR; rw [if_pos (by rw [h18, h22, h27]; rfl)]]
     exact ⟨rfl, rfl⟩
   ·
    have q22 := h22
    try simp only [zs, List.length_map] at q22
    refine lo (.off rfl rfl .here (congrArg not h22)) rfl rfl ?_
    refine lo (.off rfl rfl (.n 25 1 rfl) (congrArg not h22)) rfl rfl ?_
    refine lo (.off rfl rfl (.n 25 2 rfl) (congrArg not h22)) rfl rfl ?_
    refine lv (.plain rfl) rfl rfl (opv_pick_t rfl (Ev.eq (.t (.n 25 3 rfl))) (congrArg not h22) (Ev.eq .b)) ?_
    refine awpL_nil ?_
    refine pcond_t (.t .here) rfl ?_
    refine awp_seq ?_
    refine awp_region ?_
    refine lv (.plain rfl) rfl rfl (p_build (bldT25) rfl .nil (by simp [AV.cs, AV.one]) (cs := [_, _, _]) rfl) ?_
    refine l_storen Tryd.sizeOf25 (.plain rfl) rfl rfl (.t (.n 6 16 rfl)) (.t .here) rfl rfl rfl .here ?_
    refine lv (.plain rfl) rfl rfl (opv_assign rfl (Ev.eq .n)) ?_
    refine lv (.plain rfl) rfl rfl (opv_assign rfl (Ev.eq .i)) ?_
    refine awpL_nil ?_
    refine awp_ret ?_
    refine ret_now (.three (rv_c (agT25) (.n 6 18 rfl) .here rfl) (rv_t (.n 7 1 rfl)) (rv_t .here)) (Cast.frz0 (.tup (.cons (.agg (.cons .refl (.cons .nil (.cons .nil .nil)))) (.cons .nil (.cons .refl .nil))))) ?_
    rw [show mergeR ta tb tc = ⟨emptyT, [], 2⟩ from by unfold mergeR; rw [if_pos (by rw [h18, h22]; rfl)]]
    exact ⟨rfl, rfl⟩
  ·
   have q18 := h18
   try simp only [zs, List.length_map] at q18
   refine lo (.off rfl rfl .here (congrArg not h18)) rfl rfl ?_
   refine lo (.off rfl rfl (.n 20 1 rfl) (congrArg not h18)) rfl rfl ?_
   refine lo (.off rfl rfl (.n 20 2 rfl) (congrArg not h18)) rfl rfl ?_
   refine lv (.plain rfl) rfl rfl (opv_pick_t rfl (Ev.eq (.t (.n 20 3 rfl))) (congrArg not h18) (Ev.eq .b)) ?_
   refine lv (.plain rfl) rfl rfl (opv_move rfl (Ev.eq (.t .here))) ?_
   refine lo (.off rfl rfl .here rfl) rfl rfl ?_
   refine lo (.off rfl rfl (.n 25 1 rfl) rfl) rfl rfl ?_
   refine lo (.off rfl rfl (.n 25 2 rfl) rfl) rfl rfl ?_
   refine lv (.plain rfl) rfl rfl (opv_pick_t rfl (Ev.eq (.t (.n 25 3 rfl))) rfl (Ev.eq .b)) ?_
   refine awpL_nil ?_
   refine pcond_t (.t .here) rfl ?_
   refine awp_seq ?_
   refine awp_region ?_
   refine lv (.plain rfl) rfl rfl (p_build (bldT25) rfl .nil (by simp [AV.cs, AV.one]) (cs := [_, _, _]) rfl) ?_
   refine l_storen Tryd.sizeOf25 (.plain rfl) rfl rfl (.t (.n 6 16 rfl)) (.t .here) rfl rfl rfl .here ?_
   refine lv (.plain rfl) rfl rfl (opv_assign rfl (Ev.eq .n)) ?_
   refine lv (.plain rfl) rfl rfl (opv_assign rfl (Ev.eq .i)) ?_
   refine awpL_nil ?_
   refine awp_ret ?_
   refine ret_now (.three (rv_c (agT25) (.n 6 18 rfl) .here rfl) (rv_t (.n 7 1 rfl)) (rv_t .here)) (Cast.frz0 (.tup (.cons (.agg (.cons .refl (.cons .nil (.cons .nil .nil)))) (.cons .nil (.cons .refl .nil))))) ?_
   rw [show mergeR ta tb tc = ⟨emptyT, [], 2⟩ from by unfold mergeR; rw [if_pos (by rw [h18]; rfl)]]
   exact ⟨rfl, rfl⟩
end Go.Proofs.YtjnkbmodcddbkaaDoor
