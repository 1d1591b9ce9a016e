/- A logic of abstract states. Part 2: loads, addresses, stores, new blocks, append. -/
import Derived.Test.YtjnkbmodcddbkaaDoorAw1
import Derived.Maps.AppendAt
import Derived.Laws.CopyRow
import Derived.Laws.Rows
set_option linter.unusedVariables false
set_option linter.unusedSimpArgs false
namespace Go.Proofs.YtjnkbmodcddbkaaDoor
open Go

/-! ### cells of blocks -/
/-- The cell at this place of a block. -/
inductive Blk.at (b : Blk) : Nat → AV → Prop where
  | var {e : TypeId} {cells : List AV} {off : Nat} {c : AV} (hb : b = .var e cells) (h : cells[off]? = some c) : Blk.at b off c
  | arr {e : TypeId} {size : Nat} {rows : List (List AV)} {cap i j off : Nat} {r : List AV} {c : AV} (hb : b = .arr e size rows cap) (h : rows[i]? = some r) (hj : r[j]? = some c) (ho : off = i * size + j) : Blk.at b off c

theorem flatten_at {α : Type} {rows : List (List α)} {size : Nat} (hs : ∀ r, r ∈ rows → r.length = size) : ∀ {i j : Nat} {r : List α} {c : α}, rows[i]? = some r → r[j]? = some c → rows.flatten[i * size + j]? = some c := by
  induction rows with
  | nil => intro i j r c h; simp at h
  | cons r0 rows ih =>
    intro i j r c h hj
    have h0 : r0.length = size := hs r0 (by simp)
    cases i with
    | zero =>
      simp at h; subst h
      have hlt : j < r0.length := (List.getElem?_eq_some_iff.1 hj).1
      simp only [Nat.zero_mul, Nat.zero_add, List.flatten_cons]
      rw [List.getElem?_append_left hlt]
      exact hj
    | succ i =>
      simp at h
      simp only [List.flatten_cons]
      rw [List.getElem?_append_right (by rw [h0, Nat.succ_mul]; omega)]
      have e : (i + 1) * size + j - r0.length = i * size + j := by rw [h0, Nat.succ_mul]; omega
      rw [e]
      exact ih (fun r hr => hs r (by simp [hr])) h hj

theorem flatten_len {α : Type} {rows : List (List α)} {size : Nat} (hs : ∀ r, r ∈ rows → r.length = size) : rows.flatten.length = rows.length * size := by
  induction rows with
  | nil => simp
  | cons r rows ih => simp only [List.flatten_cons, List.length_append, List.length_cons, Nat.succ_mul, ih (fun r hr => hs r (by simp [hr])), hs r (by simp)]; omega

section mem
variable {X : Nat → Prop} {w : World} {h : H}

theorem mem_keys {i g : Nat} {b : Blk} (hi : h[i]? = some (g, b)) : g ∈ keys h := List.mem_map.2 ⟨(g, b), List.mem_of_getElem? hi, rfl⟩

theorem Rel.cell (r : Rel X w h) {i g off : Nat} {b : Blk} {c : AV} (hi : h[i]? = some (g, b)) (hb : b.at off c) : ∃ v, w.cell? ⟨g, off, none⟩ = some v ∧ AVR (Xh X h) w c v := by
  have hB := r.blk g b (List.mem_of_getElem? hi)
  cases hb with
  | var hb hc =>
    subst hb
    obtain ⟨cs, h1, h2⟩ := hB
    have hlt : off < cs.length := by rw [h2.1]; exact (List.getElem?_eq_some_iff.1 hc).1
    exact ⟨cs[off], by simp [World.cell?, h1, hlt], h2.2 off c _ hc (List.getElem?_eq_getElem hlt)⟩
  | arr hb hr hj ho =>
    rename_i e size rows cap i' j row
    subst hb
    obtain ⟨cs, h1, h2, h3, h4, h5, h6⟩ := hB
    have hf := flatten_at h5 hr hj
    rw [← ho] at hf
    have hlt : off < rows.flatten.length := (List.getElem?_eq_some_iff.1 hf).1
    have hlt2 : off < (cs.take (rows.length * size)).length := by rw [h6.1]; exact hlt
    have hlt3 : off < cs.length := by rw [List.length_take] at hlt2; omega
    refine ⟨cs[off], by simp [World.cell?, h1, hlt3], h6.2 off c _ hf ?_⟩
    rw [List.getElem?_take, if_pos (by rw [List.length_take] at hlt2; omega)]
    exact List.getElem?_eq_getElem hlt3

/-! ### replacing, adding blocks -/
theorem keys_set (h : H) (i g : Nat) (b : Blk) : keys (h.set i (g, b)) = (keys h).set i g := by simp [keys, List.map_set]
theorem nodup_set {l : List Nat} {i x : Nat} (hn : l.Nodup) (hx : x ∉ l) : (l.set i x).Nodup := by
  unfold List.Nodup at *
  rw [List.pairwise_iff_getElem] at *
  intro a b ha hb hab
  simp only [List.length_set] at ha hb
  simp only [List.getElem_set]
  by_cases h1 : i = a
  · rw [if_pos h1, if_neg (by omega)]
    intro e
    exact hx (e ▸ List.getElem_mem hb)
  · by_cases h2 : i = b
    · rw [if_neg h1, if_pos h2]
      intro e
      exact hx (e ▸ List.getElem_mem ha)
    · rw [if_neg h1, if_neg h2]
      exact hn a b ha hb hab
theorem mem_set_keys {i g' : Nat} {b' : Blk} {k : Nat} (hk : k ∈ keys (h.set i (g', b'))) : k = g' ∨ k ∈ keys h := by
  rw [keys_set] at hk
  exact (List.mem_or_eq_of_mem_set hk).symm

/-- One block turned, or moved. -/
theorem Rel.repl {w' : World} {i g g' : Nat} {b b' : Blk} (r : Rel X w h) (hi : h[i]? = some (g, b)) (hos : w'.os = w.os) (ht : w'.tape = w.tape) (hout : w'.output = w.output) (hsz : w.heap.size ≤ w'.heap.size)
    (hk : ∀ k, k < w.heap.size → k ≠ g → w'.heap[k]? = w.heap[k]?) (hg' : g' = g ∨ (w.heap.size ≤ g' ∧ g' < w'.heap.size)) (hb' : Keep (Xh X h) w (Xh X (h.set i (g', b'))) w' → BlkR (Xh X (h.set i (g', b'))) w' g' b') :
    Rel X w' (h.set i (g', b')) ∧ Step h (h.set i (g', b')) w w' := by
  have hgk := mem_keys hi
  have hglt := r.lt g hgk
  have st : Step h (h.set i (g', b')) w w' := by
    refine ⟨hos, ht, hout, hsz, fun k hkl hkn => hk k hkl (fun e => hkn (e ▸ hgk)), fun k hkk => ?_⟩
    rcases mem_set_keys hkk with rfl | hm
    · rcases hg' with rfl | hg'
      · exact .inl hgk
      · exact .inr hg'.1
    · exact .inl hm
  have hkeep := st.keeps (X := X)
  have hil : i < h.length := (List.getElem?_eq_some_iff.1 hi).1
  have hother : ∀ k b2, (k, b2) ∈ h.set i (g', b') → (k, b2) = (g', b') ∨ ((k, b2) ∈ h ∧ k ≠ g) := by
    intro k b2 hm
    obtain ⟨j, hj, hje⟩ := List.getElem_of_mem hm
    rw [List.getElem_set] at hje
    by_cases hij : i = j
    · rw [if_pos hij] at hje; exact .inl hje.symm
    · rw [if_neg hij] at hje
      rw [List.length_set] at hj
      refine .inr ⟨hje ▸ List.getElem_mem hj, fun hkg => ?_⟩
      have hn := r.nodup
      unfold List.Nodup at hn
      rw [List.pairwise_iff_getElem] at hn
      have hli : i < (keys h).length := by simpa [keys] using hil
      have hlj : j < (keys h).length := by simpa [keys] using hj
      have e1 : (keys h)[i] = g := by
        have := (List.getElem?_eq_some_iff.1 hi).2
        simp [keys, this]
      have e2 : (keys h)[j] = g := by simp [keys, hje, hkg]
      rcases Nat.lt_or_gt_of_ne hij with hlt | hlt
      · exact hn i j hli hlj hlt (by rw [e1, e2])
      · exact hn j i hlj hli hlt (by rw [e1, e2])
  refine ⟨⟨?_, fun k hkk => ?_, fun k hkk => ?_, fun k hx => Nat.lt_of_lt_of_le (r.xlt k hx) hsz, fun k b2 hm => ?_, r.glob.mono hkeep⟩, st⟩
  · rw [keys_set]
    rcases hg' with rfl | hg'
    · have e1 : (keys h).set i g' = keys h := by
        apply List.ext_getElem?
        intro j
        rw [List.getElem?_set]
        split
        · rename_i hij
          subst hij
          split
          · simp [keys, hi]
          · rename_i hl; rw [List.getElem?_eq_none (by omega)]
        · rfl
      rw [e1]; exact r.nodup
    · exact nodup_set r.nodup (fun hm => by have := r.lt g' hm; omega)
  · rcases mem_set_keys hkk with rfl | hm
    · rcases hg' with rfl | hg'
      · exact r.notX _ hgk
      · exact fun hx => by have := r.xlt _ hx; omega
    · exact r.notX k hm
  · rcases mem_set_keys hkk with rfl | hm
    · rcases hg' with rfl | hg'
      · exact Nat.lt_of_lt_of_le hglt hsz
      · exact hg'.2
    · exact Nat.lt_of_lt_of_le (r.lt k hm) hsz
  · rcases hother k b2 hm with he | ⟨hm', hne⟩
    · injection he with he1 he2
      subst he1; subst he2
      exact hb' hkeep
    · have hkk : k ∈ keys h := List.mem_map.2 ⟨_, hm', rfl⟩
      exact (r.blk k b2 hm').mono hkeep (hk k (r.lt k hkk) hne)

/-- A block more. -/
theorem Rel.cons {w' : World} {g : Nat} {b : Blk} (r : Rel X w h) (hos : w'.os = w.os) (ht : w'.tape = w.tape) (hout : w'.output = w.output) (hsz : w.heap.size ≤ w'.heap.size)
    (hk : ∀ k, k < w.heap.size → w'.heap[k]? = w.heap[k]?) (hg : w.heap.size ≤ g ∧ g < w'.heap.size) (hb : Keep (Xh X h) w (Xh X ((g, b) :: h)) w' → BlkR (Xh X ((g, b) :: h)) w' g b) :
    Rel X w' ((g, b) :: h) ∧ Step h ((g, b) :: h) w w' := by
  have hkc : ∀ k, k ∈ keys ((g, b) :: h) → k = g ∨ k ∈ keys h := fun k hk => by simpa [keys] using hk
  have st : Step h ((g, b) :: h) w w' := by
    refine ⟨hos, ht, hout, hsz, fun k hkl _ => hk k hkl, fun k hkk => ?_⟩
    rcases hkc k hkk with rfl | hm
    · exact .inr hg.1
    · exact .inl hm
  have hkeep := st.keeps (X := X)
  refine ⟨⟨?_, fun k hkk => ?_, fun k hkk => ?_, fun k hx => Nat.lt_of_lt_of_le (r.xlt k hx) hsz, fun k b2 hm => ?_, r.glob.mono hkeep⟩, st⟩
  · show (g :: keys h).Nodup
    exact List.nodup_cons.2 ⟨fun hm => by have := r.lt g hm; omega, r.nodup⟩
  · rcases hkc k hkk with rfl | hm
    · exact fun hx => by have := r.xlt _ hx; omega
    · exact r.notX k hm
  · rcases hkc k hkk with rfl | hm
    · exact hg.2
    · exact Nat.lt_of_lt_of_le (r.lt k hm) hsz
  · rcases List.mem_cons.1 hm with he | hm'
    · injection he with he1 he2
      subst he1; subst he2
      exact hb hkeep
    · have hkk : k ∈ keys h := List.mem_map.2 ⟨_, hm', rfl⟩
      exact (r.blk k b2 hm').mono hkeep (hk k (r.lt k hkk))
/-- Only new blocks that no one names. -/
theorem Rel.same {w' : World} (r : Rel X w h) (hos : w'.os = w.os) (ht : w'.tape = w.tape) (hout : w'.output = w.output) (hsz : w.heap.size ≤ w'.heap.size)
    (hk : ∀ k, k < w.heap.size → w'.heap[k]? = w.heap[k]?) : Rel X w' h ∧ Step h h w w' := by
  have st : Step h h w w' := ⟨hos, ht, hout, hsz, fun k hkl _ => hk k hkl, fun k hkk => .inl hkk⟩
  have hkeep := st.keeps (X := X)
  exact ⟨⟨r.nodup, r.notX, fun k hkk => Nat.lt_of_lt_of_le (r.lt k hkk) hsz, fun k hx => Nat.lt_of_lt_of_le (r.xlt k hx) hsz, fun k b2 hm => (r.blk k b2 hm).mono hkeep (hk k (r.lt k (List.mem_map.2 ⟨_, hm, rfl⟩))), r.glob.mono hkeep⟩, st⟩
end mem

/-! ### values of one cell -/
def AV.one : AV → Bool
  | .agg _ | .tup _ | .junk => false
  | _ => true
def AV.cs : AV → List AV
  | .agg cells => cells
  | v => [v]
theorem one_cell {Y : Nat → Prop} {w : World} {c : AV} {v : Value} (h : AVR Y w c v) (hc : c.one = true) : v.oneCell' = true := by
  cases h with
  | d h => cases h <;> first | rfl | assumption
  | nil => rfl
  | ptr g off => rfl
  | fptr _ ad vals hA hv hr => rfl
  | own g off len cap => rfl
  | fn _ _ vs hl h => rfl
  | agg _ vs hl h => cases hc
  | tup _ vs hl h => cases hc
  | junk v => cases hc
theorem one_cells {Y : Nat → Prop} {w : World} {c : AV} {v : Value} (h : AVR Y w c v) (hc : c.one = true) : v.cells = #[v] := by
  have := one_cell h hc
  cases v <;> first | rfl | (simp [Value.oneCell'] at this)
/-- What a value's cells are: of one that may be stored. -/
theorem cs_cells {Y : Nat → Prop} {w : World} {c : AV} {v : Value} (h : AVR Y w c v) (hc : ∀ x, x ∈ c.cs → x.one = true) : AVs Y w c.cs v.cells.toList ∧ ∀ u, u ∈ v.cells.toList → u.oneCell' = true := by
  have key : AVs Y w c.cs v.cells.toList := by
    by_cases ho : c.one = true
    · have : c.cs = [c] := by cases c <;> first | rfl | cases ho
      rw [this, one_cells h ho]
      exact .cons h .nil
    · cases h with
      | agg _ vs hl h => exact ⟨by simpa [AV.cs, Value.cells] using hl, fun i c v hc hv => h i c v hc (by simpa [Value.cells] using hv)⟩
      | tup cells vs hl h => exact absurd (hc (.tup cells) (by simp [AV.cs])) (by simp [AV.one])
      | junk v => exact absurd (hc .junk (by simp [AV.cs])) (by simp [AV.one])
      | d h => exact absurd rfl ho
      | nil => exact absurd rfl ho
      | ptr g off => exact absurd rfl ho
      | fptr _ ad vals hA hv hr => exact absurd rfl ho
      | own g off len cap => exact absurd rfl ho
      | fn _ _ vs hl h => exact absurd rfl ho
  refine ⟨key, fun u hu => ?_⟩
  obtain ⟨i, hi, rfl⟩ := List.getElem_of_mem hu
  have hlt : i < c.cs.length := by rw [← key.1]; exact hi
  exact one_cell (key.2 i _ _ (List.getElem?_eq_getElem hlt) (List.getElem?_eq_getElem hi)) (hc _ (List.getElem_mem hlt))

section opv
variable {ro : Option Nat} {P : Program} {h : H} {ρ : Operand → AV} {o : Oper} {av : AV}

theorem add_pt (g off n : Nat) : (⟨g, off, none⟩ : Addr).add n = ⟨g, off + n, none⟩ := by unfold Addr.add; split <;> simp_all
theorem add_add (a : Addr) (m n : Nat) : (a.add m).add n = a.add (m + n) := by unfold Addr.add; by_cases h1 : m = 0 <;> by_cases h2 : n = 0 <;> simp [h1, h2, Nat.add_assoc]

/-- Is a type one of several cells? -/
def aggTy : TypeDesc → Bool
  | .struct _ | .array _ _ => true
  | _ => false
theorem run_isAgg {t : TypeId} {d : TypeDesc} (ht : P.underlying t = some d) (w : World) : (isAgg t).run P w = .ok (aggTy d) w := by
  unfold isAgg aggTy
  simp only [Sem.run_bind, run_underlying ht, Result.andThen_ok]
  cases d <;> rfl
theorem run_load_cell {w : World} {a : Addr} {v : Value} (hc : w.cell? a = some v) : (load a).run P w = .ok v w := by simp [load, Sem.run, hc]

/-- A load of one cell. -/
theorem opv_load1 {x : Operand} {t : TypeId} {d : TypeDesc} (ht : P.underlying t = some d) (ha : aggTy d = false) {i g off : Nat} {b : Blk} (ho : o.op = .load t x) (hx : ρ x = .ptr g off) (hi : h[i]? = some (g, b)) (hc : b.at off av) : OpV ro P h ρ o av :=
  opv_pure (by simp [ho]) fun X w a hr hops => by
    have h1 := hops x (by simp [ho, Op.operands]); rw [hx] at h1
    obtain ⟨v, hv, hA⟩ := hr.cell hi hc
    exact ⟨v, by simp [execOp, ho, inv_ptr h1, Instr.loadAt, Instr.sureAddr, loadVar, run_isAgg ht, ha, run_load_cell hv, Result.andThen], hA⟩
theorem opv_load1_f {x : Operand} {t : TypeId} {d : TypeDesc} (ht : P.underlying t = some d) (ha : aggTy d = false) {c : D} {r : List D} (ho : o.op = .load t x) (hx : ρ x = .fptr (c :: r)) (hav : av = .d c) : OpV ro P h ρ o av :=
  opv_pure (by simp [ho]) fun X w a hr hops => by
    have h1 := hops x (by simp [ho, Op.operands]); rw [hx] at h1
    generalize he : a.eval x = v at h1
    cases h1 with
    | fptr _ ad vals hA hv hr =>
      have e := hv 0 c (by simp)
      rw [show ad.add 0 = ad from rfl] at e
      exact ⟨vals 0, by simp [execOp, ho, he, Instr.loadAt, Instr.sureAddr, loadVar, run_isAgg ht, ha, run_load_cell e, Result.andThen], hav ▸ .d (hr 0 c (by simp))⟩
/-- A load of several cells. -/
theorem opv_loadn {x : Operand} {t : TypeId} {d : TypeDesc} {n : Nat} (ht : P.underlying t = some d) (ha : aggTy d = true) (hs : ∀ w, (sizeOf t).run P w = .ok n w) {i g off : Nat} {b : Blk} {cs : List AV} (ho : o.op = .load t x) (hx : ρ x = .ptr g off)
    (hi : h[i]? = some (g, b)) (hc : ∀ j c, cs[j]? = some c → b.at (off + j) c) (hn : cs.length = n) (hav : av = .agg cs) : OpV ro P h ρ o av :=
  opv_pure (by simp [ho]) fun X w a hr hops => by
    have h1 := hops x (by simp [ho, Op.operands]); rw [hx] at h1
    have hex : ∀ j, j < n → ∃ v, w.cell? ⟨g, off + j, none⟩ = some v ∧ ∀ c, cs[j]? = some c → AVR (Xh X h) w c v := fun j hj => by
      have hjl : j < cs.length := by omega
      obtain ⟨v, hv, hA⟩ := hr.cell hi (hc j _ (List.getElem?_eq_getElem hjl))
      exact ⟨v, hv, fun c hcc => by rw [List.getElem?_eq_getElem hjl] at hcc; injection hcc with hcc; subst hcc; exact hA⟩
    let f : Nat → Value := fun j => if hj : j < n then Classical.choose (hex j hj) else undef
    have hf : ∀ j, j < n → w.cell? ((⟨g, off, none⟩ : Addr).add j) = some (f j) := fun j hj => by
      rw [add_pt]; simp only [f, dif_pos hj]; exact (Classical.choose_spec (hex j hj)).1
    have hl := run_loadCells_list (P := P) w (⟨g, off, none⟩ : Addr) ((List.range n).map f) (fun j v hv => by
      have hj : j < n := by
        have := (List.getElem?_eq_some_iff.1 hv).1
        simpa using this
      rw [List.getElem?_map, List.getElem?_range hj] at hv
      simp at hv
      rw [← hv]; exact hf j hj)
    simp only [List.length_map, List.length_range] at hl
    refine ⟨.agg ((List.range n).map f).toArray, by simp [execOp, ho, inv_ptr h1, Instr.loadAt, Instr.sureAddr, loadVar, run_isAgg ht, ha, hs, hl, Result.andThen], ?_⟩
    subst hav
    refine .agg cs _ (by simp [hn]) (fun j c v hcj hv => ?_)
    have hj : j < n := by have := (List.getElem?_eq_some_iff.1 hcj).1; omega
    rw [List.getElem?_map, List.getElem?_range hj] at hv
    simp at hv
    subst hv
    simp only [f, dif_pos hj]
    exact (Classical.choose_spec (hex j hj)).2 c hcj
theorem opv_loadn_f {x : Operand} {t : TypeId} {d : TypeDesc} {n : Nat} (ht : P.underlying t = some d) (ha : aggTy d = true) (hs : ∀ w, (sizeOf t).run P w = .ok n w) {cs : List D} (ho : o.op = .load t x) (hx : ρ x = .fptr cs) (hn : n ≤ cs.length) (hav : av = .agg ((cs.take n).map .d)) : OpV ro P h ρ o av :=
  opv_pure (by simp [ho]) fun X w a hr hops => by
    have h1 := hops x (by simp [ho, Op.operands]); rw [hx] at h1
    generalize he : a.eval x = v at h1
    cases h1 with
    | fptr _ ad vals hA hv hr =>
      have hl := run_loadCells_list (P := P) w ad ((List.range n).map vals) (fun j v hvj => by
        have hj : j < n := by
          have := (List.getElem?_eq_some_iff.1 hvj).1
          simpa using this
        rw [List.getElem?_map, List.getElem?_range hj] at hvj
        simp at hvj
        rw [← hvj]; exact hv j _ (List.getElem?_eq_getElem (by omega)))
      simp only [List.length_map, List.length_range] at hl
      refine ⟨.agg ((List.range n).map vals).toArray, by simp [execOp, ho, he, Instr.loadAt, Instr.sureAddr, loadVar, run_isAgg ht, ha, hs, hl, Result.andThen], ?_⟩
      subst hav
      refine .agg _ _ (by simp [hn]) (fun j c v hcj hvj => ?_)
      have hj : j < n := by have := (List.getElem?_eq_some_iff.1 hcj).1; simp at this; omega
      rw [List.getElem?_map, List.getElem?_range hj] at hvj
      simp at hvj
      subst hvj
      rw [List.getElem?_map, List.getElem?_take, if_pos hj] at hcj
      rw [List.getElem?_eq_getElem (by omega)] at hcj
      simp at hcj
      subst hcj
      exact .d (hr j _ (List.getElem?_eq_getElem (by omega)))

/-- Addresses of fields. -/
theorem opv_fieldAddr {x : Operand} {t : TypeId} {fs : Array Field} {f : Nat} {fd : Field} {n : Nat} (ht : P.underlying t = some (.struct fs)) (hf : fs[f]? = some fd) (hs : ∀ w, (sizeOf fd.type).run P w = .ok (n + 1) w) {g off : Nat} (ho : o.op = .fieldAddr t x f) (hx : ρ x = .ptr g off) (hav : av = .ptr g (off + fd.offset)) : OpV ro P h ρ o av :=
  opv_pure (by simp [ho]) fun X w a hr hops => ⟨.pointer (some ⟨g, off + fd.offset, none⟩), by
    have h1 := hops x (by simp [ho, Op.operands]); rw [hx] at h1
    simp [execOp, ho, inv_ptr h1, Instr.fieldAt, run_underlying ht, hf, Instr.sureAddr, fieldPlace, hs, Result.andThen, add_pt], hav ▸ .ptr g _⟩
theorem opv_fieldAddr_f {x : Operand} {t : TypeId} {fs : Array Field} {f : Nat} {fd : Field} {n : Nat} (ht : P.underlying t = some (.struct fs)) (hf : fs[f]? = some fd) (hs : ∀ w, (sizeOf fd.type).run P w = .ok (n + 1) w) {cs : List D} (ho : o.op = .fieldAddr t x f) (hx : ρ x = .fptr cs) (hav : av = .fptr (cs.drop fd.offset)) : OpV ro P h ρ o av :=
  opv_pure (by simp [ho]) fun X w a hr hops => by
    have h1 := hops x (by simp [ho, Op.operands]); rw [hx] at h1
    generalize he : a.eval x = v at h1
    cases h1 with
    | fptr _ ad vals hA hv hr =>
      refine ⟨.pointer (some (ad.add fd.offset)), by simp [execOp, ho, he, Instr.fieldAt, run_underlying ht, hf, Instr.sureAddr, fieldPlace, hs, Result.andThen], ?_⟩
      subst hav
      refine .fptr _ _ (fun i => vals (fd.offset + i)) ⟨by rw [add_block]; exact hA.1, by rw [add_block]; exact hA.2⟩ (fun i c hi => ?_) (fun i c hi => ?_)
      · rw [List.getElem?_drop] at hi
        rw [add_add]; exact hv _ c hi
      · rw [List.getElem?_drop] at hi
        exact hr _ c hi
/-- Addresses of elements. -/
theorem opv_indexAddr {x y : Operand} {t e : TypeId} {n : Nat} (ht : P.underlying t = some (.slice e)) (hs : ∀ w, (sizeOf e).run P w = .ok n w) {xs : List (List D)} {r : List D} {k : IntKind} {i : Int} (ho : o.op = .indexAddr t x y) (hx : ρ x = .d (.sl xs)) (hy : ρ y = .d (.i k i))
    (h0 : 0 ≤ i) (hr : xs[i.toNat]? = some r) (hn : r.length = n) (hav : av = .fptr r) : OpV ro P h ρ o av :=
  opv_pure (by simp [ho]) fun X w a _ hops => by
    have h1 := hops x (by simp [ho, Op.operands]); rw [hx] at h1
    have h2 := hops y (by simp [ho, Op.operands]); rw [hy] at h2
    obtain ⟨ad, c, he, hp⟩ := inv_sl_at h1 _ _ hr hn
    have hlt : i.toNat < xs.length := (List.getElem?_eq_some_iff.1 hr).1
    have hi : 0 ≤ i ∧ i < (xs.length : Int) := ⟨h0, by omega⟩
    exact ⟨.pointer (some (ad.add (i.toNat * n))), by simp [execOp, ho, he, inv_i h2, Instr.indexAt, run_underlying ht, asIntOf, hi, hs, Result.andThen], hav ▸ hp⟩
theorem opv_indexAddr_own {x y : Operand} {t e : TypeId} {n : Nat} (ht : P.underlying t = some (.slice e)) (hs : ∀ w, (sizeOf e).run P w = .ok n w) {g off len cap : Nat} {k : IntKind} {i : Int} (ho : o.op = .indexAddr t x y) (hx : ρ x = .own g off len cap) (hy : ρ y = .d (.i k i))
    (h0 : 0 ≤ i) (hi : i < len) (hav : av = .ptr g (off + i.toNat * n)) : OpV ro P h ρ o av :=
  opv_pure (by simp [ho]) fun X w a _ hops => by
    have h1 := hops x (by simp [ho, Op.operands]); rw [hx] at h1
    have h2 := hops y (by simp [ho, Op.operands]); rw [hy] at h2
    exact ⟨.pointer (some ⟨g, off + i.toNat * n, none⟩), by simp [execOp, ho, inv_own h1, inv_i h2, Instr.indexAt, run_underlying ht, asIntOf, h0, hi, hs, Result.andThen, add_pt], hav ▸ .ptr g _⟩
/-- Of an array in memory. -/
theorem opv_indexAddr_arr {x y : Operand} {t e : TypeId} {n m : Nat} (ht : P.underlying t = some (.array m e)) (hs : ∀ w, (sizeOf e).run P w = .ok n w) {g off : Nat} {k : IntKind} {i : Int} (ho : o.op = .indexAddr t x y) (hx : ρ x = .ptr g off) (hy : ρ y = .d (.i k i))
    (h0 : 0 ≤ i) (hi : i < m) (hav : av = .ptr g (off + i.toNat * n)) : OpV ro P h ρ o av :=
  opv_pure (by simp [ho]) fun X w a _ hops => by
    have h1 := hops x (by simp [ho, Op.operands]); rw [hx] at h1
    have h2 := hops y (by simp [ho, Op.operands]); rw [hy] at h2
    exact ⟨.pointer (some ⟨g, off + i.toNat * n, none⟩), by simp [execOp, ho, inv_ptr h1, inv_i h2, Instr.indexAt, run_underlying ht, asIntOf, Instr.sureAddr, h0, hi, hs, Result.andThen, add_pt], hav ▸ .ptr g _⟩

theorem opv_makeFunc {f : Fn} {caps : List Operand} {cs : List AV} (ho : o.op = .makeFunc f #[] caps.toArray) (hc : caps.map ρ = cs) (hav : av = .fn f cs) : OpV ro P h ρ o av :=
  opv_pure (by simp [ho]) fun X w a _ hops => ⟨.func f #[] (caps.map a.eval).toArray, by simp [execOp, ho, Instr.makeFunc, Result.andThen], by
    subst hav; subst hc
    refine .fn f _ _ (by simp) (fun i c v hi hv => ?_)
    rw [List.getElem?_map] at hi hv
    cases hq : caps[i]? with
    | none => rw [hq] at hi; simp at hi
    | some q =>
      rw [hq] at hi hv
      simp at hi hv
      subst hi; subst hv
      exact hops q (by simp [ho, Op.operands]; exact List.mem_of_getElem? hq)⟩
end opv
end Go.Proofs.YtjnkbmodcddbkaaDoor
