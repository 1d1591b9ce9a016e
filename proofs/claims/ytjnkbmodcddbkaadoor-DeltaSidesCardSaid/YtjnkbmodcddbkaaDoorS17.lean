/- A tree is small. -/
import Derived.Test.YtjnkbmodcddbkaaDoorTy
import Derived.Test.YtjnkbmodcddbkaaDoorS16
import Derived.Test.YtjnkbmodcddbkaaDoorS1
set_option linter.unusedVariables false
set_option linter.unusedSimpArgs false
namespace Go.Proofs.YtjnkbmodcddbkaaDoor
open Go Go.RowKit
def smallB (t : Trie) : Bool := decide (0 < leftF t 200 60)
theorem left_cnt : ∀ (t : Trie) (n d : Int), 0 < leftF t n d → (t.cnt : Int) + leftF t n d ≤ n := by
  intro t
  induction t using Trie.ind with
  | h l r ks ih =>
    intro n d
    have key : ∀ (ks' : List Trie), (∀ k, k ∈ ks' → ∀ (n d : Int), 0 < leftF k n d → (k.cnt : Int) + leftF k n d ≤ n) → ∀ (n d : Int), 0 < leftKs ks' n d → (cntL ks' : Int) + leftKs ks' n d ≤ n := by
      intro ks'
      induction ks' with
      | nil => intro _ n d hn; simp only [leftKs, cntL] at hn ⊢; omega
      | cons k ks' ih' =>
        intro hk n d hn
        simp only [leftKs, cntL] at hn ⊢
        split at hn
        · rename_i h0
          rw [if_pos h0]
          have h2 := ih' (fun k' hk' => hk k' (by simp [hk'])) (leftF k n d) d hn
          have h1 := hk k (by simp) n d (by omega)
          omega
        · omega
    simp only [leftF, Trie.cnt]
    split
    · intro h; omega
    · intro h
      have := key ks ih (n - 1 - (l.size : Int) / 50) (d - 1) h
      have : (0 : Int) ≤ (l.size : Int) / 50 := by omega
      omega
theorem small_cnt {t : Trie} (h : smallB t = true) : t.cnt ≤ 100000 := by
  have h1 := of_decide_eq_true h
  have := left_cnt t 200 60 h1
  omega
theorem mergeR_right (a b c : Trie) : rightB (mergeR a b c).t = true := by
  rw [← merge_eq]
  unfold mergeP
  split
  · rfl
  · rename_i h
    simp only [Bool.not_eq_true', Bool.and_eq_false_iff, not_or, Bool.not_eq_false] at h
    obtain ⟨t, h1, h2, h3⟩ := merge_tree h.1 h.2.1 h.2.2
    rw [h2]
    simp only
    split
    · exact h1
    · rfl
theorem f8_spec (t : Trie) (hl : t.lab) : FSpec Tryd.prog 8 [aTrie t] (.d (.b (smallB t))) := by
  obtain ⟨la, ra, ka⟩ := t
  show FSpec _ _ [.agg [.d (.s la), .d (dRows ra), .d (.sl (encTries ka))]] _
  refine acalls_of Tryd.func8 rfl Tryd.ntmps8 Tryd.results8 (by simp) ?_
  refine awp_seq ?_
  refine awp_region ?_
  refine l_box (.plain rfl) rfl rfl rfl (.t .here) rfl rfl (fun g1 ng1 => ?_)
  refine lv (.plain rfl) rfl rfl (opv_assign rfl (Ev.eq .b)) ?_
  refine awpL_nil ?_
  refine awp_seq ?_
  refine awp_region ?_
  refine lv (.plain rfl) rfl rfl (q_loadn (agT25) rfl (Ev.eq (.t (.n 1 1 rfl))) .here rfl) ?_
  refine lv (.plain rfl) rfl rfl (q_call rfl .f Tryd.call28 (.cons (.t .here) (.cons .i (.cons .i .nil))) rfl (f28_spec (.mk la ra ka) 200 60 hl (by omega) (by omega) (by omega) (by omega))) ?_
  refine lv (.plain rfl) rfl rfl (opv_gtr rfl (Ev.eq (.t .here)) (Ev.eq .i) rfl) ?_
  refine lv (.plain rfl) rfl rfl (opv_assign rfl (Ev.eq (.t .here))) ?_
  refine awpL_nil ?_
  refine awp_ret ?_
  refine ret_now (.one (rv_t .here)) (Cast.all _ _) ?_
  exact ⟨rfl, rfl⟩
end Go.Proofs.YtjnkbmodcddbkaaDoor
