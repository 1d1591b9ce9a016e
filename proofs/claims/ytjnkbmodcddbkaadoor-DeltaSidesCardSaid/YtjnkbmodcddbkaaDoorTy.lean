/- Facts of types. -/
import Derived.Test.YtjnkbmodcddbkaaDoorAw10
import Derived.Test.YtjnkbmodcddbkaaDoorProg
import Derived.KernelRfl
namespace Go.Proofs.YtjnkbmodcddbkaaDoor
open Go Go.RowKit
theorem mixed : Tryd.prog.follows .mixedOrders = true := by kernel_rfl
theorem scT1 : ScT Tryd.prog 1 := ⟨_, Tryd.underlying1, rfl⟩
theorem zT1 : ZT Tryd.prog 1 [.junk] := ⟨_, Tryd.zeroValue1, rfl⟩
theorem scT2 : ScT Tryd.prog 2 := ⟨_, Tryd.underlying2, rfl⟩
theorem zT2 : ZT Tryd.prog 2 [.d (.i .i64 0)] := ⟨_, Tryd.zeroValue2, rfl⟩
theorem scT3 : ScT Tryd.prog 3 := ⟨_, Tryd.underlying3, rfl⟩
theorem zT3 : ZT Tryd.prog 3 [.d (.i .i64 0)] := ⟨_, Tryd.zeroValue3, rfl⟩
theorem scT4 : ScT Tryd.prog 4 := ⟨_, Tryd.underlying4, rfl⟩
theorem zT4 : ZT Tryd.prog 4 [.d (.b false)] := ⟨_, Tryd.zeroValue4, rfl⟩
theorem scT5 : ScT Tryd.prog 5 := ⟨_, Tryd.underlying5, rfl⟩
theorem zT5 : ZT Tryd.prog 5 [.d (.i .u8 0)] := ⟨_, Tryd.zeroValue5, rfl⟩
theorem scT9 : ScT Tryd.prog 9 := ⟨_, Tryd.underlying9, rfl⟩
theorem zT9 : ZT Tryd.prog 9 [.d (.s ⟨#[]⟩)] := ⟨_, Tryd.zeroValue9, rfl⟩
theorem scT12 : ScT Tryd.prog 12 := ⟨_, Tryd.underlying12, rfl⟩
theorem zT12 : ZT Tryd.prog 12 [.d (.i .u64 0)] := ⟨_, Tryd.zeroValue12, rfl⟩
theorem scT15 : ScT Tryd.prog 15 := ⟨_, Tryd.underlying15, rfl⟩
theorem zT15 : ZT Tryd.prog 15 [.junk] := ⟨_, Tryd.zeroValue15, rfl⟩
theorem scT16 : ScT Tryd.prog 16 := ⟨_, Tryd.underlying16, rfl⟩
theorem zT16 : ZT Tryd.prog 16 [.junk] := ⟨_, Tryd.zeroValue16, rfl⟩
theorem scT17 : ScT Tryd.prog 17 := ⟨_, Tryd.underlying17, rfl⟩
theorem zT17 : ZT Tryd.prog 17 [.junk] := ⟨_, Tryd.zeroValue17, rfl⟩
theorem scT21 : ScT Tryd.prog 21 := ⟨_, Tryd.underlying21, rfl⟩
theorem zT21 : ZT Tryd.prog 21 [.d (.i .i32 0)] := ⟨_, Tryd.zeroValue21, rfl⟩
theorem scT22 : ScT Tryd.prog 22 := ⟨_, Tryd.underlying22, rfl⟩
theorem zT22 : ZT Tryd.prog 22 [.nil] := ⟨_, Tryd.zeroValue22, rfl⟩
theorem apT22 : ApT Tryd.prog 22 49 5 48 := apT (z := .agg #[.int .i64 0, .int .i64 0, .int .i64 0, .int .i64 0, .string ⟨#[]⟩]) Tryd.underlying22 (by kernel_rfl) rfl rfl rfl
theorem slZ22_1 : SlZ Tryd.prog 49 5 1 [.d (.i .i64 0), .d (.i .i64 0), .d (.i .i64 0), .d (.i .i64 0), .d (.s ⟨#[]⟩)] := ⟨_, Tryd.zeroValue49, rfl⟩
theorem slZ22_2 : SlZ Tryd.prog 49 5 2 [.d (.i .i64 0), .d (.i .i64 0), .d (.i .i64 0), .d (.i .i64 0), .d (.s ⟨#[]⟩), .d (.i .i64 0), .d (.i .i64 0), .d (.i .i64 0), .d (.i .i64 0), .d (.s ⟨#[]⟩)] := ⟨_, Tryd.zeroValue49, rfl⟩
theorem slZ22_3 : SlZ Tryd.prog 49 5 3 [.d (.i .i64 0), .d (.i .i64 0), .d (.i .i64 0), .d (.i .i64 0), .d (.s ⟨#[]⟩), .d (.i .i64 0), .d (.i .i64 0), .d (.i .i64 0), .d (.i .i64 0), .d (.s ⟨#[]⟩), .d (.i .i64 0), .d (.i .i64 0), .d (.i .i64 0), .d (.i .i64 0), .d (.s ⟨#[]⟩)] := ⟨_, Tryd.zeroValue49, rfl⟩
theorem slT22 : SlT Tryd.prog 22 49 5 := ⟨Tryd.underlying22, Tryd.sizeOf49⟩
theorem scT23 : ScT Tryd.prog 23 := ⟨_, Tryd.underlying23, rfl⟩
theorem zT23 : ZT Tryd.prog 23 [.nil] := ⟨_, Tryd.zeroValue23, rfl⟩
theorem apT23 : ApT Tryd.prog 23 25 3 64 := apT (z := .agg #[.string ⟨#[]⟩, .slice none 0 0, .slice none 0 0]) Tryd.underlying23 (by kernel_rfl) rfl rfl rfl
theorem slZ23_1 : SlZ Tryd.prog 25 3 1 [.d (.s ⟨#[]⟩), .nil, .nil] := ⟨_, Tryd.zeroValue25, rfl⟩
theorem slZ23_2 : SlZ Tryd.prog 25 3 2 [.d (.s ⟨#[]⟩), .nil, .nil, .d (.s ⟨#[]⟩), .nil, .nil] := ⟨_, Tryd.zeroValue25, rfl⟩
theorem slZ23_3 : SlZ Tryd.prog 25 3 3 [.d (.s ⟨#[]⟩), .nil, .nil, .d (.s ⟨#[]⟩), .nil, .nil, .d (.s ⟨#[]⟩), .nil, .nil] := ⟨_, Tryd.zeroValue25, rfl⟩
theorem slT23 : SlT Tryd.prog 23 25 3 := ⟨Tryd.underlying23, Tryd.sizeOf25⟩
theorem agT24 : AgT Tryd.prog 24 3 := ⟨_, Tryd.underlying24, rfl, Tryd.sizeOf24⟩
theorem zT24 : ZT Tryd.prog 24 [.d (.s ⟨#[]⟩), .nil, .nil] := ⟨_, Tryd.zeroValue24, rfl⟩
theorem fldT24_0 : FldT Tryd.prog 24 0 0 := ⟨_, _, 0, Tryd.underlying24, rfl, Tryd.sizeOf9, rfl⟩
theorem fldS24_0 : ∀ fs fd, Tryd.prog.underlying 24 = some (.struct fs) → fs[0]? = some fd → ScT Tryd.prog fd.type := fun fs fd h1 h2 => by
  rw [Tryd.underlying24] at h1
  injection h1 with h1
  injection h1 with h1
  subst h1
  injection h2 with h2
  subst h2
  exact ⟨_, Tryd.underlying9, rfl⟩
theorem fldT24_1 : FldT Tryd.prog 24 1 1 := ⟨_, _, 0, Tryd.underlying24, rfl, Tryd.sizeOf22, rfl⟩
theorem fldS24_1 : ∀ fs fd, Tryd.prog.underlying 24 = some (.struct fs) → fs[1]? = some fd → ScT Tryd.prog fd.type := fun fs fd h1 h2 => by
  rw [Tryd.underlying24] at h1
  injection h1 with h1
  injection h1 with h1
  subst h1
  injection h2 with h2
  subst h2
  exact ⟨_, Tryd.underlying22, rfl⟩
theorem fldT24_2 : FldT Tryd.prog 24 2 2 := ⟨_, _, 0, Tryd.underlying24, rfl, Tryd.sizeOf23, rfl⟩
theorem fldS24_2 : ∀ fs fd, Tryd.prog.underlying 24 = some (.struct fs) → fs[2]? = some fd → ScT Tryd.prog fd.type := fun fs fd h1 h2 => by
  rw [Tryd.underlying24] at h1
  injection h1 with h1
  injection h1 with h1
  subst h1
  injection h2 with h2
  subst h2
  exact ⟨_, Tryd.underlying23, rfl⟩
theorem bldT24 : BldT Tryd.prog 24 [(0, 1), (1, 1), (2, 1)] [.d (.s ⟨#[]⟩), .nil, .nil] := ⟨_, _, Tryd.underlying24, Tryd.zeroValue24, rfl, fun w => by kernel_rfl⟩
theorem agT25 : AgT Tryd.prog 25 3 := ⟨_, Tryd.underlying25, rfl, Tryd.sizeOf25⟩
theorem zT25 : ZT Tryd.prog 25 [.d (.s ⟨#[]⟩), .nil, .nil] := ⟨_, Tryd.zeroValue25, rfl⟩
theorem fldT25_0 : FldT Tryd.prog 25 0 0 := ⟨_, _, 0, Tryd.underlying25, rfl, Tryd.sizeOf9, rfl⟩
theorem fldS25_0 : ∀ fs fd, Tryd.prog.underlying 25 = some (.struct fs) → fs[0]? = some fd → ScT Tryd.prog fd.type := fun fs fd h1 h2 => by
  rw [Tryd.underlying25] at h1
  injection h1 with h1
  injection h1 with h1
  subst h1
  injection h2 with h2
  subst h2
  exact ⟨_, Tryd.underlying9, rfl⟩
theorem fldT25_1 : FldT Tryd.prog 25 1 1 := ⟨_, _, 0, Tryd.underlying25, rfl, Tryd.sizeOf22, rfl⟩
theorem fldS25_1 : ∀ fs fd, Tryd.prog.underlying 25 = some (.struct fs) → fs[1]? = some fd → ScT Tryd.prog fd.type := fun fs fd h1 h2 => by
  rw [Tryd.underlying25] at h1
  injection h1 with h1
  injection h1 with h1
  subst h1
  injection h2 with h2
  subst h2
  exact ⟨_, Tryd.underlying22, rfl⟩
theorem fldT25_2 : FldT Tryd.prog 25 2 2 := ⟨_, _, 0, Tryd.underlying25, rfl, Tryd.sizeOf23, rfl⟩
theorem fldS25_2 : ∀ fs fd, Tryd.prog.underlying 25 = some (.struct fs) → fs[2]? = some fd → ScT Tryd.prog fd.type := fun fs fd h1 h2 => by
  rw [Tryd.underlying25] at h1
  injection h1 with h1
  injection h1 with h1
  subst h1
  injection h2 with h2
  subst h2
  exact ⟨_, Tryd.underlying23, rfl⟩
theorem bldT25 : BldT Tryd.prog 25 [(0, 1), (1, 1), (2, 1)] [.d (.s ⟨#[]⟩), .nil, .nil] := ⟨_, _, Tryd.underlying25, Tryd.zeroValue25, rfl, fun w => by kernel_rfl⟩
theorem scT26 : ScT Tryd.prog 26 := ⟨_, Tryd.underlying26, rfl⟩
theorem zT26 : ZT Tryd.prog 26 [.junk] := ⟨_, Tryd.zeroValue26, rfl⟩
theorem scT27 : ScT Tryd.prog 27 := ⟨_, Tryd.underlying27, rfl⟩
theorem zT27 : ZT Tryd.prog 27 [.junk] := ⟨_, Tryd.zeroValue27, rfl⟩
theorem scT28 : ScT Tryd.prog 28 := ⟨_, Tryd.underlying28, rfl⟩
theorem zT28 : ZT Tryd.prog 28 [.nil] := ⟨_, Tryd.zeroValue28, rfl⟩
theorem apT28 : ApT Tryd.prog 28 9 1 16 := apT (z := .string ⟨#[]⟩) Tryd.underlying28 (by kernel_rfl) rfl rfl rfl
theorem slZ28_1 : SlZ Tryd.prog 9 1 1 [.d (.s ⟨#[]⟩)] := ⟨_, Tryd.zeroValue9, rfl⟩
theorem slZ28_2 : SlZ Tryd.prog 9 1 2 [.d (.s ⟨#[]⟩), .d (.s ⟨#[]⟩)] := ⟨_, Tryd.zeroValue9, rfl⟩
theorem slZ28_3 : SlZ Tryd.prog 9 1 3 [.d (.s ⟨#[]⟩), .d (.s ⟨#[]⟩), .d (.s ⟨#[]⟩)] := ⟨_, Tryd.zeroValue9, rfl⟩
theorem slT28 : SlT Tryd.prog 28 9 1 := ⟨Tryd.underlying28, Tryd.sizeOf9⟩
theorem scT29 : ScT Tryd.prog 29 := ⟨_, Tryd.underlying29, rfl⟩
theorem zT29 : ZT Tryd.prog 29 [.d (.i .i64 0)] := ⟨_, Tryd.zeroValue29, rfl⟩
theorem scT31 : ScT Tryd.prog 31 := ⟨_, Tryd.underlying31, rfl⟩
theorem zT31 : ZT Tryd.prog 31 [.junk] := ⟨_, Tryd.zeroValue31, rfl⟩
theorem scT33 : ScT Tryd.prog 33 := ⟨_, Tryd.underlying33, rfl⟩
theorem zT33 : ZT Tryd.prog 33 [.junk] := ⟨_, Tryd.zeroValue33, rfl⟩
theorem scT34 : ScT Tryd.prog 34 := ⟨_, Tryd.underlying34, rfl⟩
theorem zT34 : ZT Tryd.prog 34 [.junk] := ⟨_, Tryd.zeroValue34, rfl⟩
theorem scT35 : ScT Tryd.prog 35 := ⟨_, Tryd.underlying35, rfl⟩
theorem zT35 : ZT Tryd.prog 35 [.junk] := ⟨_, Tryd.zeroValue35, rfl⟩
theorem scT36 : ScT Tryd.prog 36 := ⟨_, Tryd.underlying36, rfl⟩
theorem zT36 : ZT Tryd.prog 36 [.junk] := ⟨_, Tryd.zeroValue36, rfl⟩
theorem scT37 : ScT Tryd.prog 37 := ⟨_, Tryd.underlying37, rfl⟩
theorem zT37 : ZT Tryd.prog 37 [.junk] := ⟨_, Tryd.zeroValue37, rfl⟩
theorem scT38 : ScT Tryd.prog 38 := ⟨_, Tryd.underlying38, rfl⟩
theorem zT38 : ZT Tryd.prog 38 [.nil] := ⟨_, Tryd.zeroValue38, rfl⟩
theorem apT38 : ApT Tryd.prog 38 43 2 40 := apT (z := .agg #[.string ⟨#[]⟩, .slice none 0 0]) Tryd.underlying38 (by kernel_rfl) rfl rfl rfl
theorem slZ38_1 : SlZ Tryd.prog 43 2 1 [.d (.s ⟨#[]⟩), .nil] := ⟨_, Tryd.zeroValue43, rfl⟩
theorem slZ38_2 : SlZ Tryd.prog 43 2 2 [.d (.s ⟨#[]⟩), .nil, .d (.s ⟨#[]⟩), .nil] := ⟨_, Tryd.zeroValue43, rfl⟩
theorem slZ38_3 : SlZ Tryd.prog 43 2 3 [.d (.s ⟨#[]⟩), .nil, .d (.s ⟨#[]⟩), .nil, .d (.s ⟨#[]⟩), .nil] := ⟨_, Tryd.zeroValue43, rfl⟩
theorem slT38 : SlT Tryd.prog 38 43 2 := ⟨Tryd.underlying38, Tryd.sizeOf43⟩
theorem scT39 : ScT Tryd.prog 39 := ⟨_, Tryd.underlying39, rfl⟩
theorem zT39 : ZT Tryd.prog 39 [.junk] := ⟨_, Tryd.zeroValue39, rfl⟩
theorem agT40 : AgT Tryd.prog 40 5 := ⟨_, Tryd.underlying40, rfl, Tryd.sizeOf40⟩
theorem zT40 : ZT Tryd.prog 40 [.d (.i .i64 0), .d (.i .i64 0), .d (.i .i64 0), .d (.i .i64 0), .d (.i .i64 0)] := ⟨_, Tryd.zeroValue40, rfl⟩
theorem fldT40_0 : FldT Tryd.prog 40 0 0 := ⟨_, _, 0, Tryd.underlying40, rfl, Tryd.sizeOf3, rfl⟩
theorem fldS40_0 : ∀ fs fd, Tryd.prog.underlying 40 = some (.struct fs) → fs[0]? = some fd → ScT Tryd.prog fd.type := fun fs fd h1 h2 => by
  rw [Tryd.underlying40] at h1
  injection h1 with h1
  injection h1 with h1
  subst h1
  injection h2 with h2
  subst h2
  exact ⟨_, Tryd.underlying3, rfl⟩
theorem fldT40_1 : FldT Tryd.prog 40 1 1 := ⟨_, _, 0, Tryd.underlying40, rfl, Tryd.sizeOf3, rfl⟩
theorem fldS40_1 : ∀ fs fd, Tryd.prog.underlying 40 = some (.struct fs) → fs[1]? = some fd → ScT Tryd.prog fd.type := fun fs fd h1 h2 => by
  rw [Tryd.underlying40] at h1
  injection h1 with h1
  injection h1 with h1
  subst h1
  injection h2 with h2
  subst h2
  exact ⟨_, Tryd.underlying3, rfl⟩
theorem fldT40_2 : FldT Tryd.prog 40 2 2 := ⟨_, _, 0, Tryd.underlying40, rfl, Tryd.sizeOf3, rfl⟩
theorem fldS40_2 : ∀ fs fd, Tryd.prog.underlying 40 = some (.struct fs) → fs[2]? = some fd → ScT Tryd.prog fd.type := fun fs fd h1 h2 => by
  rw [Tryd.underlying40] at h1
  injection h1 with h1
  injection h1 with h1
  subst h1
  injection h2 with h2
  subst h2
  exact ⟨_, Tryd.underlying3, rfl⟩
theorem fldT40_3 : FldT Tryd.prog 40 3 3 := ⟨_, _, 0, Tryd.underlying40, rfl, Tryd.sizeOf3, rfl⟩
theorem fldS40_3 : ∀ fs fd, Tryd.prog.underlying 40 = some (.struct fs) → fs[3]? = some fd → ScT Tryd.prog fd.type := fun fs fd h1 h2 => by
  rw [Tryd.underlying40] at h1
  injection h1 with h1
  injection h1 with h1
  subst h1
  injection h2 with h2
  subst h2
  exact ⟨_, Tryd.underlying3, rfl⟩
theorem fldT40_4 : FldT Tryd.prog 40 4 4 := ⟨_, _, 0, Tryd.underlying40, rfl, Tryd.sizeOf3, rfl⟩
theorem fldS40_4 : ∀ fs fd, Tryd.prog.underlying 40 = some (.struct fs) → fs[4]? = some fd → ScT Tryd.prog fd.type := fun fs fd h1 h2 => by
  rw [Tryd.underlying40] at h1
  injection h1 with h1
  injection h1 with h1
  subst h1
  injection h2 with h2
  subst h2
  exact ⟨_, Tryd.underlying3, rfl⟩
theorem bldT40 : BldT Tryd.prog 40 [(0, 1), (1, 1), (2, 1), (3, 1), (4, 1)] [.d (.i .i64 0), .d (.i .i64 0), .d (.i .i64 0), .d (.i .i64 0), .d (.i .i64 0)] := ⟨_, _, Tryd.underlying40, Tryd.zeroValue40, rfl, fun w => by kernel_rfl⟩
theorem eqf40 {d : Nat} {w : World} {a0 b0 : Int} {a1 b1 : Int} {a2 b2 : Int} {a3 b3 : Int} {a4 b4 : Int} : (Op.equalIn (d + 20) 40 (.agg #[.int .i64 a0, .int .i64 a1, .int .i64 a2, .int .i64 a3, .int .i64 a4]) (.agg #[.int .i64 b0, .int .i64 b1, .int .i64 b2, .int .i64 b3, .int .i64 b4])).run Tryd.prog w = .ok (decide (a0 = b0 ∧ a1 = b1 ∧ a2 = b2 ∧ a3 = b3 ∧ a4 = b4)) w := by
  refine (eqA Tryd.underlying40 (by kernel_rfl)).trans ?_
  refine eqf_cons (a := .int .i64 a0) (b := .int .i64 b0) rfl (by simp [part, run_isAgg Tryd.underlying3, aggTy]) (by simp [part, run_isAgg Tryd.underlying3, aggTy]) (eq_int Tryd.underlying3) ?_
  refine eqf_cons (a := .int .i64 a1) (b := .int .i64 b1) rfl (by simp [part, run_isAgg Tryd.underlying3, aggTy]) (by simp [part, run_isAgg Tryd.underlying3, aggTy]) (eq_int Tryd.underlying3) ?_
  refine eqf_cons (a := .int .i64 a2) (b := .int .i64 b2) rfl (by simp [part, run_isAgg Tryd.underlying3, aggTy]) (by simp [part, run_isAgg Tryd.underlying3, aggTy]) (eq_int Tryd.underlying3) ?_
  refine eqf_cons (a := .int .i64 a3) (b := .int .i64 b3) rfl (by simp [part, run_isAgg Tryd.underlying3, aggTy]) (by simp [part, run_isAgg Tryd.underlying3, aggTy]) (eq_int Tryd.underlying3) ?_
  exact eqf_last (a := .int .i64 a4) (b := .int .i64 b4) rfl (by simp [part, run_isAgg Tryd.underlying3, aggTy]) (by simp [part, run_isAgg Tryd.underlying3, aggTy]) (eq_int Tryd.underlying3)
theorem eqg40 {d : Nat} {w : World} {a0 b0 : Int} {a1 b1 : Int} {a2 b2 : Int} {a3 b3 : Int} {a4 b4 : Int} : (Op.equalIn (d + 19) 40 (.agg #[.int .i64 a0, .int .i64 a1, .int .i64 a2, .int .i64 a3, .int .i64 a4]) (.agg #[.int .i64 b0, .int .i64 b1, .int .i64 b2, .int .i64 b3, .int .i64 b4])).run Tryd.prog w = .ok (decide (a0 = b0 ∧ a1 = b1 ∧ a2 = b2 ∧ a3 = b3 ∧ a4 = b4)) w := by
  refine (eqA Tryd.underlying40 (by kernel_rfl)).trans ?_
  refine eqf_cons (a := .int .i64 a0) (b := .int .i64 b0) rfl (by simp [part, run_isAgg Tryd.underlying3, aggTy]) (by simp [part, run_isAgg Tryd.underlying3, aggTy]) (eq_int Tryd.underlying3) ?_
  refine eqf_cons (a := .int .i64 a1) (b := .int .i64 b1) rfl (by simp [part, run_isAgg Tryd.underlying3, aggTy]) (by simp [part, run_isAgg Tryd.underlying3, aggTy]) (eq_int Tryd.underlying3) ?_
  refine eqf_cons (a := .int .i64 a2) (b := .int .i64 b2) rfl (by simp [part, run_isAgg Tryd.underlying3, aggTy]) (by simp [part, run_isAgg Tryd.underlying3, aggTy]) (eq_int Tryd.underlying3) ?_
  refine eqf_cons (a := .int .i64 a3) (b := .int .i64 b3) rfl (by simp [part, run_isAgg Tryd.underlying3, aggTy]) (by simp [part, run_isAgg Tryd.underlying3, aggTy]) (eq_int Tryd.underlying3) ?_
  exact eqf_last (a := .int .i64 a4) (b := .int .i64 b4) rfl (by simp [part, run_isAgg Tryd.underlying3, aggTy]) (by simp [part, run_isAgg Tryd.underlying3, aggTy]) (eq_int Tryd.underlying3)
theorem veq40 {ro : Option Nat} {h : H} {ρ : Operand → AV} {o : Oper} {t' : TypeId} {x y : Operand} {a0 b0 : Int} {a1 b1 : Int} {a2 b2 : Int} {a3 b3 : Int} {a4 b4 : Int} {r : Bool} (ho : o.op = .binOp .eql 40 x y t') (hx : ρ x = .agg [.d (.i .i64 a0), .d (.i .i64 a1), .d (.i .i64 a2), .d (.i .i64 a3), .d (.i .i64 a4)]) (hy : ρ y = .agg [.d (.i .i64 b0), .d (.i .i64 b1), .d (.i .i64 b2), .d (.i .i64 b3), .d (.i .i64 b4)]) (hr : (decide (a0 = b0 ∧ a1 = b1 ∧ a2 = b2 ∧ a3 = b3 ∧ a4 = b4)) = r) : OpV ro Tryd.prog h ρ o (.d (.b r)) := by
  subst hr
  exact opv_agg_eql (by kernel_rfl) ho hx hy rfl rfl (fun w => eqf40)
theorem vne40 {ro : Option Nat} {h : H} {ρ : Operand → AV} {o : Oper} {t' : TypeId} {x y : Operand} {a0 b0 : Int} {a1 b1 : Int} {a2 b2 : Int} {a3 b3 : Int} {a4 b4 : Int} {r : Bool} (ho : o.op = .binOp .neq 40 x y t') (hx : ρ x = .agg [.d (.i .i64 a0), .d (.i .i64 a1), .d (.i .i64 a2), .d (.i .i64 a3), .d (.i .i64 a4)]) (hy : ρ y = .agg [.d (.i .i64 b0), .d (.i .i64 b1), .d (.i .i64 b2), .d (.i .i64 b3), .d (.i .i64 b4)]) (hr : (!decide (a0 = b0 ∧ a1 = b1 ∧ a2 = b2 ∧ a3 = b3 ∧ a4 = b4)) = r) : OpV ro Tryd.prog h ρ o (.d (.b r)) := by
  subst hr
  exact opv_agg_neq (by kernel_rfl) ho hx hy rfl rfl (fun w => eqf40) rfl
theorem agT41 : AgT Tryd.prog 41 5 := ⟨_, Tryd.underlying41, rfl, Tryd.sizeOf41⟩
theorem zT41 : ZT Tryd.prog 41 [.d (.i .i64 0), .d (.i .i64 0), .d (.i .i64 0), .d (.i .i64 0), .d (.i .i64 0)] := ⟨_, Tryd.zeroValue41, rfl⟩
theorem fldT41_0 : FldT Tryd.prog 41 0 0 := ⟨_, _, 0, Tryd.underlying41, rfl, Tryd.sizeOf3, rfl⟩
theorem fldS41_0 : ∀ fs fd, Tryd.prog.underlying 41 = some (.struct fs) → fs[0]? = some fd → ScT Tryd.prog fd.type := fun fs fd h1 h2 => by
  rw [Tryd.underlying41] at h1
  injection h1 with h1
  injection h1 with h1
  subst h1
  injection h2 with h2
  subst h2
  exact ⟨_, Tryd.underlying3, rfl⟩
theorem fldT41_1 : FldT Tryd.prog 41 1 1 := ⟨_, _, 0, Tryd.underlying41, rfl, Tryd.sizeOf3, rfl⟩
theorem fldS41_1 : ∀ fs fd, Tryd.prog.underlying 41 = some (.struct fs) → fs[1]? = some fd → ScT Tryd.prog fd.type := fun fs fd h1 h2 => by
  rw [Tryd.underlying41] at h1
  injection h1 with h1
  injection h1 with h1
  subst h1
  injection h2 with h2
  subst h2
  exact ⟨_, Tryd.underlying3, rfl⟩
theorem fldT41_2 : FldT Tryd.prog 41 2 2 := ⟨_, _, 0, Tryd.underlying41, rfl, Tryd.sizeOf3, rfl⟩
theorem fldS41_2 : ∀ fs fd, Tryd.prog.underlying 41 = some (.struct fs) → fs[2]? = some fd → ScT Tryd.prog fd.type := fun fs fd h1 h2 => by
  rw [Tryd.underlying41] at h1
  injection h1 with h1
  injection h1 with h1
  subst h1
  injection h2 with h2
  subst h2
  exact ⟨_, Tryd.underlying3, rfl⟩
theorem fldT41_3 : FldT Tryd.prog 41 3 3 := ⟨_, _, 0, Tryd.underlying41, rfl, Tryd.sizeOf3, rfl⟩
theorem fldS41_3 : ∀ fs fd, Tryd.prog.underlying 41 = some (.struct fs) → fs[3]? = some fd → ScT Tryd.prog fd.type := fun fs fd h1 h2 => by
  rw [Tryd.underlying41] at h1
  injection h1 with h1
  injection h1 with h1
  subst h1
  injection h2 with h2
  subst h2
  exact ⟨_, Tryd.underlying3, rfl⟩
theorem fldT41_4 : FldT Tryd.prog 41 4 4 := ⟨_, _, 0, Tryd.underlying41, rfl, Tryd.sizeOf3, rfl⟩
theorem fldS41_4 : ∀ fs fd, Tryd.prog.underlying 41 = some (.struct fs) → fs[4]? = some fd → ScT Tryd.prog fd.type := fun fs fd h1 h2 => by
  rw [Tryd.underlying41] at h1
  injection h1 with h1
  injection h1 with h1
  subst h1
  injection h2 with h2
  subst h2
  exact ⟨_, Tryd.underlying3, rfl⟩
theorem bldT41 : BldT Tryd.prog 41 [(0, 1), (1, 1), (2, 1), (3, 1), (4, 1)] [.d (.i .i64 0), .d (.i .i64 0), .d (.i .i64 0), .d (.i .i64 0), .d (.i .i64 0)] := ⟨_, _, Tryd.underlying41, Tryd.zeroValue41, rfl, fun w => by kernel_rfl⟩
theorem eqf41 {d : Nat} {w : World} {a0 b0 : Int} {a1 b1 : Int} {a2 b2 : Int} {a3 b3 : Int} {a4 b4 : Int} : (Op.equalIn (d + 20) 41 (.agg #[.int .i64 a0, .int .i64 a1, .int .i64 a2, .int .i64 a3, .int .i64 a4]) (.agg #[.int .i64 b0, .int .i64 b1, .int .i64 b2, .int .i64 b3, .int .i64 b4])).run Tryd.prog w = .ok (decide (a0 = b0 ∧ a1 = b1 ∧ a2 = b2 ∧ a3 = b3 ∧ a4 = b4)) w := by
  refine (eqA Tryd.underlying41 (by kernel_rfl)).trans ?_
  refine eqf_cons (a := .int .i64 a0) (b := .int .i64 b0) rfl (by simp [part, run_isAgg Tryd.underlying3, aggTy]) (by simp [part, run_isAgg Tryd.underlying3, aggTy]) (eq_int Tryd.underlying3) ?_
  refine eqf_cons (a := .int .i64 a1) (b := .int .i64 b1) rfl (by simp [part, run_isAgg Tryd.underlying3, aggTy]) (by simp [part, run_isAgg Tryd.underlying3, aggTy]) (eq_int Tryd.underlying3) ?_
  refine eqf_cons (a := .int .i64 a2) (b := .int .i64 b2) rfl (by simp [part, run_isAgg Tryd.underlying3, aggTy]) (by simp [part, run_isAgg Tryd.underlying3, aggTy]) (eq_int Tryd.underlying3) ?_
  refine eqf_cons (a := .int .i64 a3) (b := .int .i64 b3) rfl (by simp [part, run_isAgg Tryd.underlying3, aggTy]) (by simp [part, run_isAgg Tryd.underlying3, aggTy]) (eq_int Tryd.underlying3) ?_
  exact eqf_last (a := .int .i64 a4) (b := .int .i64 b4) rfl (by simp [part, run_isAgg Tryd.underlying3, aggTy]) (by simp [part, run_isAgg Tryd.underlying3, aggTy]) (eq_int Tryd.underlying3)
theorem eqg41 {d : Nat} {w : World} {a0 b0 : Int} {a1 b1 : Int} {a2 b2 : Int} {a3 b3 : Int} {a4 b4 : Int} : (Op.equalIn (d + 19) 41 (.agg #[.int .i64 a0, .int .i64 a1, .int .i64 a2, .int .i64 a3, .int .i64 a4]) (.agg #[.int .i64 b0, .int .i64 b1, .int .i64 b2, .int .i64 b3, .int .i64 b4])).run Tryd.prog w = .ok (decide (a0 = b0 ∧ a1 = b1 ∧ a2 = b2 ∧ a3 = b3 ∧ a4 = b4)) w := by
  refine (eqA Tryd.underlying41 (by kernel_rfl)).trans ?_
  refine eqf_cons (a := .int .i64 a0) (b := .int .i64 b0) rfl (by simp [part, run_isAgg Tryd.underlying3, aggTy]) (by simp [part, run_isAgg Tryd.underlying3, aggTy]) (eq_int Tryd.underlying3) ?_
  refine eqf_cons (a := .int .i64 a1) (b := .int .i64 b1) rfl (by simp [part, run_isAgg Tryd.underlying3, aggTy]) (by simp [part, run_isAgg Tryd.underlying3, aggTy]) (eq_int Tryd.underlying3) ?_
  refine eqf_cons (a := .int .i64 a2) (b := .int .i64 b2) rfl (by simp [part, run_isAgg Tryd.underlying3, aggTy]) (by simp [part, run_isAgg Tryd.underlying3, aggTy]) (eq_int Tryd.underlying3) ?_
  refine eqf_cons (a := .int .i64 a3) (b := .int .i64 b3) rfl (by simp [part, run_isAgg Tryd.underlying3, aggTy]) (by simp [part, run_isAgg Tryd.underlying3, aggTy]) (eq_int Tryd.underlying3) ?_
  exact eqf_last (a := .int .i64 a4) (b := .int .i64 b4) rfl (by simp [part, run_isAgg Tryd.underlying3, aggTy]) (by simp [part, run_isAgg Tryd.underlying3, aggTy]) (eq_int Tryd.underlying3)
theorem veq41 {ro : Option Nat} {h : H} {ρ : Operand → AV} {o : Oper} {t' : TypeId} {x y : Operand} {a0 b0 : Int} {a1 b1 : Int} {a2 b2 : Int} {a3 b3 : Int} {a4 b4 : Int} {r : Bool} (ho : o.op = .binOp .eql 41 x y t') (hx : ρ x = .agg [.d (.i .i64 a0), .d (.i .i64 a1), .d (.i .i64 a2), .d (.i .i64 a3), .d (.i .i64 a4)]) (hy : ρ y = .agg [.d (.i .i64 b0), .d (.i .i64 b1), .d (.i .i64 b2), .d (.i .i64 b3), .d (.i .i64 b4)]) (hr : (decide (a0 = b0 ∧ a1 = b1 ∧ a2 = b2 ∧ a3 = b3 ∧ a4 = b4)) = r) : OpV ro Tryd.prog h ρ o (.d (.b r)) := by
  subst hr
  exact opv_agg_eql (by kernel_rfl) ho hx hy rfl rfl (fun w => eqf41)
theorem vne41 {ro : Option Nat} {h : H} {ρ : Operand → AV} {o : Oper} {t' : TypeId} {x y : Operand} {a0 b0 : Int} {a1 b1 : Int} {a2 b2 : Int} {a3 b3 : Int} {a4 b4 : Int} {r : Bool} (ho : o.op = .binOp .neq 41 x y t') (hx : ρ x = .agg [.d (.i .i64 a0), .d (.i .i64 a1), .d (.i .i64 a2), .d (.i .i64 a3), .d (.i .i64 a4)]) (hy : ρ y = .agg [.d (.i .i64 b0), .d (.i .i64 b1), .d (.i .i64 b2), .d (.i .i64 b3), .d (.i .i64 b4)]) (hr : (!decide (a0 = b0 ∧ a1 = b1 ∧ a2 = b2 ∧ a3 = b3 ∧ a4 = b4)) = r) : OpV ro Tryd.prog h ρ o (.d (.b r)) := by
  subst hr
  exact opv_agg_neq (by kernel_rfl) ho hx hy rfl rfl (fun w => eqf41) rfl
theorem agT42 : AgT Tryd.prog 42 2 := ⟨_, Tryd.underlying42, rfl, Tryd.sizeOf42⟩
theorem zT42 : ZT Tryd.prog 42 [.d (.s ⟨#[]⟩), .nil] := ⟨_, Tryd.zeroValue42, rfl⟩
theorem fldT42_0 : FldT Tryd.prog 42 0 0 := ⟨_, _, 0, Tryd.underlying42, rfl, Tryd.sizeOf9, rfl⟩
theorem fldS42_0 : ∀ fs fd, Tryd.prog.underlying 42 = some (.struct fs) → fs[0]? = some fd → ScT Tryd.prog fd.type := fun fs fd h1 h2 => by
  rw [Tryd.underlying42] at h1
  injection h1 with h1
  injection h1 with h1
  subst h1
  injection h2 with h2
  subst h2
  exact ⟨_, Tryd.underlying9, rfl⟩
theorem fldT42_1 : FldT Tryd.prog 42 1 1 := ⟨_, _, 0, Tryd.underlying42, rfl, Tryd.sizeOf22, rfl⟩
theorem fldS42_1 : ∀ fs fd, Tryd.prog.underlying 42 = some (.struct fs) → fs[1]? = some fd → ScT Tryd.prog fd.type := fun fs fd h1 h2 => by
  rw [Tryd.underlying42] at h1
  injection h1 with h1
  injection h1 with h1
  subst h1
  injection h2 with h2
  subst h2
  exact ⟨_, Tryd.underlying22, rfl⟩
theorem bldT42 : BldT Tryd.prog 42 [(0, 1), (1, 1)] [.d (.s ⟨#[]⟩), .nil] := ⟨_, _, Tryd.underlying42, Tryd.zeroValue42, rfl, fun w => by kernel_rfl⟩
theorem agT43 : AgT Tryd.prog 43 2 := ⟨_, Tryd.underlying43, rfl, Tryd.sizeOf43⟩
theorem zT43 : ZT Tryd.prog 43 [.d (.s ⟨#[]⟩), .nil] := ⟨_, Tryd.zeroValue43, rfl⟩
theorem fldT43_0 : FldT Tryd.prog 43 0 0 := ⟨_, _, 0, Tryd.underlying43, rfl, Tryd.sizeOf9, rfl⟩
theorem fldS43_0 : ∀ fs fd, Tryd.prog.underlying 43 = some (.struct fs) → fs[0]? = some fd → ScT Tryd.prog fd.type := fun fs fd h1 h2 => by
  rw [Tryd.underlying43] at h1
  injection h1 with h1
  injection h1 with h1
  subst h1
  injection h2 with h2
  subst h2
  exact ⟨_, Tryd.underlying9, rfl⟩
theorem fldT43_1 : FldT Tryd.prog 43 1 1 := ⟨_, _, 0, Tryd.underlying43, rfl, Tryd.sizeOf22, rfl⟩
theorem fldS43_1 : ∀ fs fd, Tryd.prog.underlying 43 = some (.struct fs) → fs[1]? = some fd → ScT Tryd.prog fd.type := fun fs fd h1 h2 => by
  rw [Tryd.underlying43] at h1
  injection h1 with h1
  injection h1 with h1
  subst h1
  injection h2 with h2
  subst h2
  exact ⟨_, Tryd.underlying22, rfl⟩
theorem bldT43 : BldT Tryd.prog 43 [(0, 1), (1, 1)] [.d (.s ⟨#[]⟩), .nil] := ⟨_, _, Tryd.underlying43, Tryd.zeroValue43, rfl, fun w => by kernel_rfl⟩
theorem scT44 : ScT Tryd.prog 44 := ⟨_, Tryd.underlying44, rfl⟩
theorem zT44 : ZT Tryd.prog 44 [.junk] := ⟨_, Tryd.zeroValue44, rfl⟩
theorem scT45 : ScT Tryd.prog 45 := ⟨_, Tryd.underlying45, rfl⟩
theorem zT45 : ZT Tryd.prog 45 [.d (.i .i64 0)] := ⟨_, Tryd.zeroValue45, rfl⟩
theorem agT46 : AgT Tryd.prog 46 3 := ⟨_, Tryd.underlying46, rfl, Tryd.sizeOf46⟩
theorem zT46 : ZT Tryd.prog 46 [.d (.i .i64 0), .d (.i .i64 0), .d (.s ⟨#[]⟩)] := ⟨_, Tryd.zeroValue46, rfl⟩
theorem fldT46_0 : FldT Tryd.prog 46 0 0 := ⟨_, _, 0, Tryd.underlying46, rfl, Tryd.sizeOf45, rfl⟩
theorem fldS46_0 : ∀ fs fd, Tryd.prog.underlying 46 = some (.struct fs) → fs[0]? = some fd → ScT Tryd.prog fd.type := fun fs fd h1 h2 => by
  rw [Tryd.underlying46] at h1
  injection h1 with h1
  injection h1 with h1
  subst h1
  injection h2 with h2
  subst h2
  exact ⟨_, Tryd.underlying45, rfl⟩
theorem fldT46_1 : FldT Tryd.prog 46 1 1 := ⟨_, _, 0, Tryd.underlying46, rfl, Tryd.sizeOf3, rfl⟩
theorem fldS46_1 : ∀ fs fd, Tryd.prog.underlying 46 = some (.struct fs) → fs[1]? = some fd → ScT Tryd.prog fd.type := fun fs fd h1 h2 => by
  rw [Tryd.underlying46] at h1
  injection h1 with h1
  injection h1 with h1
  subst h1
  injection h2 with h2
  subst h2
  exact ⟨_, Tryd.underlying3, rfl⟩
theorem fldT46_2 : FldT Tryd.prog 46 2 2 := ⟨_, _, 0, Tryd.underlying46, rfl, Tryd.sizeOf9, rfl⟩
theorem fldS46_2 : ∀ fs fd, Tryd.prog.underlying 46 = some (.struct fs) → fs[2]? = some fd → ScT Tryd.prog fd.type := fun fs fd h1 h2 => by
  rw [Tryd.underlying46] at h1
  injection h1 with h1
  injection h1 with h1
  subst h1
  injection h2 with h2
  subst h2
  exact ⟨_, Tryd.underlying9, rfl⟩
theorem bldT46 : BldT Tryd.prog 46 [(0, 1), (1, 1), (2, 1)] [.d (.i .i64 0), .d (.i .i64 0), .d (.s ⟨#[]⟩)] := ⟨_, _, Tryd.underlying46, Tryd.zeroValue46, rfl, fun w => by kernel_rfl⟩
theorem eqf46 {d : Nat} {w : World} {a0 b0 : Int} {a1 b1 : Int} {a2 b2 : ByteArray} : (Op.equalIn (d + 20) 46 (.agg #[.int .i64 a0, .int .i64 a1, .string a2]) (.agg #[.int .i64 b0, .int .i64 b1, .string b2])).run Tryd.prog w = .ok (decide (a0 = b0 ∧ a1 = b1 ∧ a2 = b2)) w := by
  refine (eqA Tryd.underlying46 (by kernel_rfl)).trans ?_
  refine eqf_cons (a := .int .i64 a0) (b := .int .i64 b0) rfl (by simp [part, run_isAgg Tryd.underlying45, aggTy]) (by simp [part, run_isAgg Tryd.underlying45, aggTy]) (eq_int Tryd.underlying45) ?_
  refine eqf_cons (a := .int .i64 a1) (b := .int .i64 b1) rfl (by simp [part, run_isAgg Tryd.underlying3, aggTy]) (by simp [part, run_isAgg Tryd.underlying3, aggTy]) (eq_int Tryd.underlying3) ?_
  exact eqf_last (a := .string a2) (b := .string b2) rfl (by simp [part, run_isAgg Tryd.underlying9, aggTy]) (by simp [part, run_isAgg Tryd.underlying9, aggTy]) (eq_str Tryd.underlying9)
theorem eqg46 {d : Nat} {w : World} {a0 b0 : Int} {a1 b1 : Int} {a2 b2 : ByteArray} : (Op.equalIn (d + 19) 46 (.agg #[.int .i64 a0, .int .i64 a1, .string a2]) (.agg #[.int .i64 b0, .int .i64 b1, .string b2])).run Tryd.prog w = .ok (decide (a0 = b0 ∧ a1 = b1 ∧ a2 = b2)) w := by
  refine (eqA Tryd.underlying46 (by kernel_rfl)).trans ?_
  refine eqf_cons (a := .int .i64 a0) (b := .int .i64 b0) rfl (by simp [part, run_isAgg Tryd.underlying45, aggTy]) (by simp [part, run_isAgg Tryd.underlying45, aggTy]) (eq_int Tryd.underlying45) ?_
  refine eqf_cons (a := .int .i64 a1) (b := .int .i64 b1) rfl (by simp [part, run_isAgg Tryd.underlying3, aggTy]) (by simp [part, run_isAgg Tryd.underlying3, aggTy]) (eq_int Tryd.underlying3) ?_
  exact eqf_last (a := .string a2) (b := .string b2) rfl (by simp [part, run_isAgg Tryd.underlying9, aggTy]) (by simp [part, run_isAgg Tryd.underlying9, aggTy]) (eq_str Tryd.underlying9)
theorem veq46 {ro : Option Nat} {h : H} {ρ : Operand → AV} {o : Oper} {t' : TypeId} {x y : Operand} {a0 b0 : Int} {a1 b1 : Int} {a2 b2 : ByteArray} {r : Bool} (ho : o.op = .binOp .eql 46 x y t') (hx : ρ x = .agg [.d (.i .i64 a0), .d (.i .i64 a1), .d (.s a2)]) (hy : ρ y = .agg [.d (.i .i64 b0), .d (.i .i64 b1), .d (.s b2)]) (hr : (decide (a0 = b0 ∧ a1 = b1 ∧ a2 = b2)) = r) : OpV ro Tryd.prog h ρ o (.d (.b r)) := by
  subst hr
  exact opv_agg_eql (by kernel_rfl) ho hx hy rfl rfl (fun w => eqf46)
theorem vne46 {ro : Option Nat} {h : H} {ρ : Operand → AV} {o : Oper} {t' : TypeId} {x y : Operand} {a0 b0 : Int} {a1 b1 : Int} {a2 b2 : ByteArray} {r : Bool} (ho : o.op = .binOp .neq 46 x y t') (hx : ρ x = .agg [.d (.i .i64 a0), .d (.i .i64 a1), .d (.s a2)]) (hy : ρ y = .agg [.d (.i .i64 b0), .d (.i .i64 b1), .d (.s b2)]) (hr : (!decide (a0 = b0 ∧ a1 = b1 ∧ a2 = b2)) = r) : OpV ro Tryd.prog h ρ o (.d (.b r)) := by
  subst hr
  exact opv_agg_neq (by kernel_rfl) ho hx hy rfl rfl (fun w => eqf46) rfl
theorem agT47 : AgT Tryd.prog 47 3 := ⟨_, Tryd.underlying47, rfl, Tryd.sizeOf47⟩
theorem zT47 : ZT Tryd.prog 47 [.d (.i .i64 0), .d (.i .i64 0), .d (.s ⟨#[]⟩)] := ⟨_, Tryd.zeroValue47, rfl⟩
theorem fldT47_0 : FldT Tryd.prog 47 0 0 := ⟨_, _, 0, Tryd.underlying47, rfl, Tryd.sizeOf45, rfl⟩
theorem fldS47_0 : ∀ fs fd, Tryd.prog.underlying 47 = some (.struct fs) → fs[0]? = some fd → ScT Tryd.prog fd.type := fun fs fd h1 h2 => by
  rw [Tryd.underlying47] at h1
  injection h1 with h1
  injection h1 with h1
  subst h1
  injection h2 with h2
  subst h2
  exact ⟨_, Tryd.underlying45, rfl⟩
theorem fldT47_1 : FldT Tryd.prog 47 1 1 := ⟨_, _, 0, Tryd.underlying47, rfl, Tryd.sizeOf3, rfl⟩
theorem fldS47_1 : ∀ fs fd, Tryd.prog.underlying 47 = some (.struct fs) → fs[1]? = some fd → ScT Tryd.prog fd.type := fun fs fd h1 h2 => by
  rw [Tryd.underlying47] at h1
  injection h1 with h1
  injection h1 with h1
  subst h1
  injection h2 with h2
  subst h2
  exact ⟨_, Tryd.underlying3, rfl⟩
theorem fldT47_2 : FldT Tryd.prog 47 2 2 := ⟨_, _, 0, Tryd.underlying47, rfl, Tryd.sizeOf9, rfl⟩
theorem fldS47_2 : ∀ fs fd, Tryd.prog.underlying 47 = some (.struct fs) → fs[2]? = some fd → ScT Tryd.prog fd.type := fun fs fd h1 h2 => by
  rw [Tryd.underlying47] at h1
  injection h1 with h1
  injection h1 with h1
  subst h1
  injection h2 with h2
  subst h2
  exact ⟨_, Tryd.underlying9, rfl⟩
theorem bldT47 : BldT Tryd.prog 47 [(0, 1), (1, 1), (2, 1)] [.d (.i .i64 0), .d (.i .i64 0), .d (.s ⟨#[]⟩)] := ⟨_, _, Tryd.underlying47, Tryd.zeroValue47, rfl, fun w => by kernel_rfl⟩
theorem eqf47 {d : Nat} {w : World} {a0 b0 : Int} {a1 b1 : Int} {a2 b2 : ByteArray} : (Op.equalIn (d + 20) 47 (.agg #[.int .i64 a0, .int .i64 a1, .string a2]) (.agg #[.int .i64 b0, .int .i64 b1, .string b2])).run Tryd.prog w = .ok (decide (a0 = b0 ∧ a1 = b1 ∧ a2 = b2)) w := by
  refine (eqA Tryd.underlying47 (by kernel_rfl)).trans ?_
  refine eqf_cons (a := .int .i64 a0) (b := .int .i64 b0) rfl (by simp [part, run_isAgg Tryd.underlying45, aggTy]) (by simp [part, run_isAgg Tryd.underlying45, aggTy]) (eq_int Tryd.underlying45) ?_
  refine eqf_cons (a := .int .i64 a1) (b := .int .i64 b1) rfl (by simp [part, run_isAgg Tryd.underlying3, aggTy]) (by simp [part, run_isAgg Tryd.underlying3, aggTy]) (eq_int Tryd.underlying3) ?_
  exact eqf_last (a := .string a2) (b := .string b2) rfl (by simp [part, run_isAgg Tryd.underlying9, aggTy]) (by simp [part, run_isAgg Tryd.underlying9, aggTy]) (eq_str Tryd.underlying9)
theorem eqg47 {d : Nat} {w : World} {a0 b0 : Int} {a1 b1 : Int} {a2 b2 : ByteArray} : (Op.equalIn (d + 19) 47 (.agg #[.int .i64 a0, .int .i64 a1, .string a2]) (.agg #[.int .i64 b0, .int .i64 b1, .string b2])).run Tryd.prog w = .ok (decide (a0 = b0 ∧ a1 = b1 ∧ a2 = b2)) w := by
  refine (eqA Tryd.underlying47 (by kernel_rfl)).trans ?_
  refine eqf_cons (a := .int .i64 a0) (b := .int .i64 b0) rfl (by simp [part, run_isAgg Tryd.underlying45, aggTy]) (by simp [part, run_isAgg Tryd.underlying45, aggTy]) (eq_int Tryd.underlying45) ?_
  refine eqf_cons (a := .int .i64 a1) (b := .int .i64 b1) rfl (by simp [part, run_isAgg Tryd.underlying3, aggTy]) (by simp [part, run_isAgg Tryd.underlying3, aggTy]) (eq_int Tryd.underlying3) ?_
  exact eqf_last (a := .string a2) (b := .string b2) rfl (by simp [part, run_isAgg Tryd.underlying9, aggTy]) (by simp [part, run_isAgg Tryd.underlying9, aggTy]) (eq_str Tryd.underlying9)
theorem veq47 {ro : Option Nat} {h : H} {ρ : Operand → AV} {o : Oper} {t' : TypeId} {x y : Operand} {a0 b0 : Int} {a1 b1 : Int} {a2 b2 : ByteArray} {r : Bool} (ho : o.op = .binOp .eql 47 x y t') (hx : ρ x = .agg [.d (.i .i64 a0), .d (.i .i64 a1), .d (.s a2)]) (hy : ρ y = .agg [.d (.i .i64 b0), .d (.i .i64 b1), .d (.s b2)]) (hr : (decide (a0 = b0 ∧ a1 = b1 ∧ a2 = b2)) = r) : OpV ro Tryd.prog h ρ o (.d (.b r)) := by
  subst hr
  exact opv_agg_eql (by kernel_rfl) ho hx hy rfl rfl (fun w => eqf47)
theorem vne47 {ro : Option Nat} {h : H} {ρ : Operand → AV} {o : Oper} {t' : TypeId} {x y : Operand} {a0 b0 : Int} {a1 b1 : Int} {a2 b2 : ByteArray} {r : Bool} (ho : o.op = .binOp .neq 47 x y t') (hx : ρ x = .agg [.d (.i .i64 a0), .d (.i .i64 a1), .d (.s a2)]) (hy : ρ y = .agg [.d (.i .i64 b0), .d (.i .i64 b1), .d (.s b2)]) (hr : (!decide (a0 = b0 ∧ a1 = b1 ∧ a2 = b2)) = r) : OpV ro Tryd.prog h ρ o (.d (.b r)) := by
  subst hr
  exact opv_agg_neq (by kernel_rfl) ho hx hy rfl rfl (fun w => eqf47) rfl
theorem agT48 : AgT Tryd.prog 48 5 := ⟨_, Tryd.underlying48, rfl, Tryd.sizeOf48⟩
theorem zT48 : ZT Tryd.prog 48 [.d (.i .i64 0), .d (.i .i64 0), .d (.i .i64 0), .d (.i .i64 0), .d (.s ⟨#[]⟩)] := ⟨_, Tryd.zeroValue48, rfl⟩
theorem fldT48_0 : FldT Tryd.prog 48 0 0 := ⟨_, _, 0, Tryd.underlying48, rfl, Tryd.sizeOf3, rfl⟩
theorem fldS48_0 : ∀ fs fd, Tryd.prog.underlying 48 = some (.struct fs) → fs[0]? = some fd → ScT Tryd.prog fd.type := fun fs fd h1 h2 => by
  rw [Tryd.underlying48] at h1
  injection h1 with h1
  injection h1 with h1
  subst h1
  injection h2 with h2
  subst h2
  exact ⟨_, Tryd.underlying3, rfl⟩
theorem fldT48_1 : FldT Tryd.prog 48 1 1 := ⟨_, _, 0, Tryd.underlying48, rfl, Tryd.sizeOf3, rfl⟩
theorem fldS48_1 : ∀ fs fd, Tryd.prog.underlying 48 = some (.struct fs) → fs[1]? = some fd → ScT Tryd.prog fd.type := fun fs fd h1 h2 => by
  rw [Tryd.underlying48] at h1
  injection h1 with h1
  injection h1 with h1
  subst h1
  injection h2 with h2
  subst h2
  exact ⟨_, Tryd.underlying3, rfl⟩
theorem fldT48_2 : FldT Tryd.prog 48 2 2 := ⟨_, _, 2, Tryd.underlying48, rfl, Tryd.sizeOf47, rfl⟩
theorem bldT48 : BldT Tryd.prog 48 [(0, 1), (1, 1), (2, 3)] [.d (.i .i64 0), .d (.i .i64 0), .d (.i .i64 0), .d (.i .i64 0), .d (.s ⟨#[]⟩)] := ⟨_, _, Tryd.underlying48, Tryd.zeroValue48, rfl, fun w => by kernel_rfl⟩
theorem eqf48 {d : Nat} {w : World} {a0 b0 : Int} {a1 b1 : Int} {a2 b2 : Int} {a3 b3 : Int} {a4 b4 : ByteArray} : (Op.equalIn (d + 20) 48 (.agg #[.int .i64 a0, .int .i64 a1, .int .i64 a2, .int .i64 a3, .string a4]) (.agg #[.int .i64 b0, .int .i64 b1, .int .i64 b2, .int .i64 b3, .string b4])).run Tryd.prog w = .ok (decide (a0 = b0 ∧ a1 = b1 ∧ (a2 = b2 ∧ a3 = b3 ∧ a4 = b4))) w := by
  refine (eqA Tryd.underlying48 (by kernel_rfl)).trans ?_
  refine eqf_cons (a := .int .i64 a0) (b := .int .i64 b0) rfl (by simp [part, run_isAgg Tryd.underlying3, aggTy]) (by simp [part, run_isAgg Tryd.underlying3, aggTy]) (eq_int Tryd.underlying3) ?_
  refine eqf_cons (a := .int .i64 a1) (b := .int .i64 b1) rfl (by simp [part, run_isAgg Tryd.underlying3, aggTy]) (by simp [part, run_isAgg Tryd.underlying3, aggTy]) (eq_int Tryd.underlying3) ?_
  exact eqf_last (a := .agg #[.int .i64 a2, .int .i64 a3, .string a4]) (b := .agg #[.int .i64 b2, .int .i64 b3, .string b4]) rfl (by simp [part, run_isAgg Tryd.underlying47, aggTy, Tryd.sizeOf47]) (by simp [part, run_isAgg Tryd.underlying47, aggTy, Tryd.sizeOf47]) (eqg47)
theorem veq48 {ro : Option Nat} {h : H} {ρ : Operand → AV} {o : Oper} {t' : TypeId} {x y : Operand} {a0 b0 : Int} {a1 b1 : Int} {a2 b2 : Int} {a3 b3 : Int} {a4 b4 : ByteArray} {r : Bool} (ho : o.op = .binOp .eql 48 x y t') (hx : ρ x = .agg [.d (.i .i64 a0), .d (.i .i64 a1), .d (.i .i64 a2), .d (.i .i64 a3), .d (.s a4)]) (hy : ρ y = .agg [.d (.i .i64 b0), .d (.i .i64 b1), .d (.i .i64 b2), .d (.i .i64 b3), .d (.s b4)]) (hr : (decide (a0 = b0 ∧ a1 = b1 ∧ (a2 = b2 ∧ a3 = b3 ∧ a4 = b4))) = r) : OpV ro Tryd.prog h ρ o (.d (.b r)) := by
  subst hr
  exact opv_agg_eql (by kernel_rfl) ho hx hy rfl rfl (fun w => eqf48)
theorem vne48 {ro : Option Nat} {h : H} {ρ : Operand → AV} {o : Oper} {t' : TypeId} {x y : Operand} {a0 b0 : Int} {a1 b1 : Int} {a2 b2 : Int} {a3 b3 : Int} {a4 b4 : ByteArray} {r : Bool} (ho : o.op = .binOp .neq 48 x y t') (hx : ρ x = .agg [.d (.i .i64 a0), .d (.i .i64 a1), .d (.i .i64 a2), .d (.i .i64 a3), .d (.s a4)]) (hy : ρ y = .agg [.d (.i .i64 b0), .d (.i .i64 b1), .d (.i .i64 b2), .d (.i .i64 b3), .d (.s b4)]) (hr : (!decide (a0 = b0 ∧ a1 = b1 ∧ (a2 = b2 ∧ a3 = b3 ∧ a4 = b4))) = r) : OpV ro Tryd.prog h ρ o (.d (.b r)) := by
  subst hr
  exact opv_agg_neq (by kernel_rfl) ho hx hy rfl rfl (fun w => eqf48) rfl
theorem agT49 : AgT Tryd.prog 49 5 := ⟨_, Tryd.underlying49, rfl, Tryd.sizeOf49⟩
theorem zT49 : ZT Tryd.prog 49 [.d (.i .i64 0), .d (.i .i64 0), .d (.i .i64 0), .d (.i .i64 0), .d (.s ⟨#[]⟩)] := ⟨_, Tryd.zeroValue49, rfl⟩
theorem fldT49_0 : FldT Tryd.prog 49 0 0 := ⟨_, _, 0, Tryd.underlying49, rfl, Tryd.sizeOf3, rfl⟩
theorem fldS49_0 : ∀ fs fd, Tryd.prog.underlying 49 = some (.struct fs) → fs[0]? = some fd → ScT Tryd.prog fd.type := fun fs fd h1 h2 => by
  rw [Tryd.underlying49] at h1
  injection h1 with h1
  injection h1 with h1
  subst h1
  injection h2 with h2
  subst h2
  exact ⟨_, Tryd.underlying3, rfl⟩
theorem fldT49_1 : FldT Tryd.prog 49 1 1 := ⟨_, _, 0, Tryd.underlying49, rfl, Tryd.sizeOf3, rfl⟩
theorem fldS49_1 : ∀ fs fd, Tryd.prog.underlying 49 = some (.struct fs) → fs[1]? = some fd → ScT Tryd.prog fd.type := fun fs fd h1 h2 => by
  rw [Tryd.underlying49] at h1
  injection h1 with h1
  injection h1 with h1
  subst h1
  injection h2 with h2
  subst h2
  exact ⟨_, Tryd.underlying3, rfl⟩
theorem fldT49_2 : FldT Tryd.prog 49 2 2 := ⟨_, _, 2, Tryd.underlying49, rfl, Tryd.sizeOf47, rfl⟩
theorem bldT49 : BldT Tryd.prog 49 [(0, 1), (1, 1), (2, 3)] [.d (.i .i64 0), .d (.i .i64 0), .d (.i .i64 0), .d (.i .i64 0), .d (.s ⟨#[]⟩)] := ⟨_, _, Tryd.underlying49, Tryd.zeroValue49, rfl, fun w => by kernel_rfl⟩
theorem eqf49 {d : Nat} {w : World} {a0 b0 : Int} {a1 b1 : Int} {a2 b2 : Int} {a3 b3 : Int} {a4 b4 : ByteArray} : (Op.equalIn (d + 20) 49 (.agg #[.int .i64 a0, .int .i64 a1, .int .i64 a2, .int .i64 a3, .string a4]) (.agg #[.int .i64 b0, .int .i64 b1, .int .i64 b2, .int .i64 b3, .string b4])).run Tryd.prog w = .ok (decide (a0 = b0 ∧ a1 = b1 ∧ (a2 = b2 ∧ a3 = b3 ∧ a4 = b4))) w := by
  refine (eqA Tryd.underlying49 (by kernel_rfl)).trans ?_
  refine eqf_cons (a := .int .i64 a0) (b := .int .i64 b0) rfl (by simp [part, run_isAgg Tryd.underlying3, aggTy]) (by simp [part, run_isAgg Tryd.underlying3, aggTy]) (eq_int Tryd.underlying3) ?_
  refine eqf_cons (a := .int .i64 a1) (b := .int .i64 b1) rfl (by simp [part, run_isAgg Tryd.underlying3, aggTy]) (by simp [part, run_isAgg Tryd.underlying3, aggTy]) (eq_int Tryd.underlying3) ?_
  exact eqf_last (a := .agg #[.int .i64 a2, .int .i64 a3, .string a4]) (b := .agg #[.int .i64 b2, .int .i64 b3, .string b4]) rfl (by simp [part, run_isAgg Tryd.underlying47, aggTy, Tryd.sizeOf47]) (by simp [part, run_isAgg Tryd.underlying47, aggTy, Tryd.sizeOf47]) (eqg47)
theorem veq49 {ro : Option Nat} {h : H} {ρ : Operand → AV} {o : Oper} {t' : TypeId} {x y : Operand} {a0 b0 : Int} {a1 b1 : Int} {a2 b2 : Int} {a3 b3 : Int} {a4 b4 : ByteArray} {r : Bool} (ho : o.op = .binOp .eql 49 x y t') (hx : ρ x = .agg [.d (.i .i64 a0), .d (.i .i64 a1), .d (.i .i64 a2), .d (.i .i64 a3), .d (.s a4)]) (hy : ρ y = .agg [.d (.i .i64 b0), .d (.i .i64 b1), .d (.i .i64 b2), .d (.i .i64 b3), .d (.s b4)]) (hr : (decide (a0 = b0 ∧ a1 = b1 ∧ (a2 = b2 ∧ a3 = b3 ∧ a4 = b4))) = r) : OpV ro Tryd.prog h ρ o (.d (.b r)) := by
  subst hr
  exact opv_agg_eql (by kernel_rfl) ho hx hy rfl rfl (fun w => eqf49)
theorem vne49 {ro : Option Nat} {h : H} {ρ : Operand → AV} {o : Oper} {t' : TypeId} {x y : Operand} {a0 b0 : Int} {a1 b1 : Int} {a2 b2 : Int} {a3 b3 : Int} {a4 b4 : ByteArray} {r : Bool} (ho : o.op = .binOp .neq 49 x y t') (hx : ρ x = .agg [.d (.i .i64 a0), .d (.i .i64 a1), .d (.i .i64 a2), .d (.i .i64 a3), .d (.s a4)]) (hy : ρ y = .agg [.d (.i .i64 b0), .d (.i .i64 b1), .d (.i .i64 b2), .d (.i .i64 b3), .d (.s b4)]) (hr : (!decide (a0 = b0 ∧ a1 = b1 ∧ (a2 = b2 ∧ a3 = b3 ∧ a4 = b4))) = r) : OpV ro Tryd.prog h ρ o (.d (.b r)) := by
  subst hr
  exact opv_agg_neq (by kernel_rfl) ho hx hy rfl rfl (fun w => eqf49) rfl
theorem scT50 : ScT Tryd.prog 50 := ⟨_, Tryd.underlying50, rfl⟩
theorem zT50 : ZT Tryd.prog 50 [.junk] := ⟨_, Tryd.zeroValue50, rfl⟩
theorem scT51 : ScT Tryd.prog 51 := ⟨_, Tryd.underlying51, rfl⟩
theorem zT51 : ZT Tryd.prog 51 [.junk] := ⟨_, Tryd.zeroValue51, rfl⟩
theorem scT52 : ScT Tryd.prog 52 := ⟨_, Tryd.underlying52, rfl⟩
theorem zT52 : ZT Tryd.prog 52 [.junk] := ⟨_, Tryd.zeroValue52, rfl⟩
theorem scT53 : ScT Tryd.prog 53 := ⟨_, Tryd.underlying53, rfl⟩
theorem zT53 : ZT Tryd.prog 53 [.junk] := ⟨_, Tryd.zeroValue53, rfl⟩
theorem scT55 : ScT Tryd.prog 55 := ⟨_, Tryd.underlying55, rfl⟩
theorem zT55 : ZT Tryd.prog 55 [.junk] := ⟨_, Tryd.zeroValue55, rfl⟩
theorem scT56 : ScT Tryd.prog 56 := ⟨_, Tryd.underlying56, rfl⟩
theorem zT56 : ZT Tryd.prog 56 [.junk] := ⟨_, Tryd.zeroValue56, rfl⟩
theorem scT57 : ScT Tryd.prog 57 := ⟨_, Tryd.underlying57, rfl⟩
theorem zT57 : ZT Tryd.prog 57 [.nil] := ⟨_, Tryd.zeroValue57, rfl⟩
theorem apT57 : ApT Tryd.prog 57 60 3 64 := apT (z := .agg #[.string ⟨#[]⟩, .slice none 0 0, .slice none 0 0]) Tryd.underlying57 (by kernel_rfl) rfl rfl rfl
theorem slZ57_1 : SlZ Tryd.prog 60 3 1 [.d (.s ⟨#[]⟩), .nil, .nil] := ⟨_, Tryd.zeroValue60, rfl⟩
theorem slZ57_2 : SlZ Tryd.prog 60 3 2 [.d (.s ⟨#[]⟩), .nil, .nil, .d (.s ⟨#[]⟩), .nil, .nil] := ⟨_, Tryd.zeroValue60, rfl⟩
theorem slZ57_3 : SlZ Tryd.prog 60 3 3 [.d (.s ⟨#[]⟩), .nil, .nil, .d (.s ⟨#[]⟩), .nil, .nil, .d (.s ⟨#[]⟩), .nil, .nil] := ⟨_, Tryd.zeroValue60, rfl⟩
theorem slT57 : SlT Tryd.prog 57 60 3 := ⟨Tryd.underlying57, Tryd.sizeOf60⟩
theorem scT58 : ScT Tryd.prog 58 := ⟨_, Tryd.underlying58, rfl⟩
theorem zT58 : ZT Tryd.prog 58 [.junk] := ⟨_, Tryd.zeroValue58, rfl⟩
theorem agT59 : AgT Tryd.prog 59 3 := ⟨_, Tryd.underlying59, rfl, Tryd.sizeOf59⟩
theorem zT59 : ZT Tryd.prog 59 [.d (.s ⟨#[]⟩), .nil, .nil] := ⟨_, Tryd.zeroValue59, rfl⟩
theorem fldT59_0 : FldT Tryd.prog 59 0 0 := ⟨_, _, 0, Tryd.underlying59, rfl, Tryd.sizeOf9, rfl⟩
theorem fldS59_0 : ∀ fs fd, Tryd.prog.underlying 59 = some (.struct fs) → fs[0]? = some fd → ScT Tryd.prog fd.type := fun fs fd h1 h2 => by
  rw [Tryd.underlying59] at h1
  injection h1 with h1
  injection h1 with h1
  subst h1
  injection h2 with h2
  subst h2
  exact ⟨_, Tryd.underlying9, rfl⟩
theorem fldT59_1 : FldT Tryd.prog 59 1 1 := ⟨_, _, 0, Tryd.underlying59, rfl, Tryd.sizeOf22, rfl⟩
theorem fldS59_1 : ∀ fs fd, Tryd.prog.underlying 59 = some (.struct fs) → fs[1]? = some fd → ScT Tryd.prog fd.type := fun fs fd h1 h2 => by
  rw [Tryd.underlying59] at h1
  injection h1 with h1
  injection h1 with h1
  subst h1
  injection h2 with h2
  subst h2
  exact ⟨_, Tryd.underlying22, rfl⟩
theorem fldT59_2 : FldT Tryd.prog 59 2 2 := ⟨_, _, 0, Tryd.underlying59, rfl, Tryd.sizeOf22, rfl⟩
theorem fldS59_2 : ∀ fs fd, Tryd.prog.underlying 59 = some (.struct fs) → fs[2]? = some fd → ScT Tryd.prog fd.type := fun fs fd h1 h2 => by
  rw [Tryd.underlying59] at h1
  injection h1 with h1
  injection h1 with h1
  subst h1
  injection h2 with h2
  subst h2
  exact ⟨_, Tryd.underlying22, rfl⟩
theorem bldT59 : BldT Tryd.prog 59 [(0, 1), (1, 1), (2, 1)] [.d (.s ⟨#[]⟩), .nil, .nil] := ⟨_, _, Tryd.underlying59, Tryd.zeroValue59, rfl, fun w => by kernel_rfl⟩
theorem agT60 : AgT Tryd.prog 60 3 := ⟨_, Tryd.underlying60, rfl, Tryd.sizeOf60⟩
theorem zT60 : ZT Tryd.prog 60 [.d (.s ⟨#[]⟩), .nil, .nil] := ⟨_, Tryd.zeroValue60, rfl⟩
theorem fldT60_0 : FldT Tryd.prog 60 0 0 := ⟨_, _, 0, Tryd.underlying60, rfl, Tryd.sizeOf9, rfl⟩
theorem fldS60_0 : ∀ fs fd, Tryd.prog.underlying 60 = some (.struct fs) → fs[0]? = some fd → ScT Tryd.prog fd.type := fun fs fd h1 h2 => by
  rw [Tryd.underlying60] at h1
  injection h1 with h1
  injection h1 with h1
  subst h1
  injection h2 with h2
  subst h2
  exact ⟨_, Tryd.underlying9, rfl⟩
theorem fldT60_1 : FldT Tryd.prog 60 1 1 := ⟨_, _, 0, Tryd.underlying60, rfl, Tryd.sizeOf22, rfl⟩
theorem fldS60_1 : ∀ fs fd, Tryd.prog.underlying 60 = some (.struct fs) → fs[1]? = some fd → ScT Tryd.prog fd.type := fun fs fd h1 h2 => by
  rw [Tryd.underlying60] at h1
  injection h1 with h1
  injection h1 with h1
  subst h1
  injection h2 with h2
  subst h2
  exact ⟨_, Tryd.underlying22, rfl⟩
theorem fldT60_2 : FldT Tryd.prog 60 2 2 := ⟨_, _, 0, Tryd.underlying60, rfl, Tryd.sizeOf22, rfl⟩
theorem fldS60_2 : ∀ fs fd, Tryd.prog.underlying 60 = some (.struct fs) → fs[2]? = some fd → ScT Tryd.prog fd.type := fun fs fd h1 h2 => by
  rw [Tryd.underlying60] at h1
  injection h1 with h1
  injection h1 with h1
  subst h1
  injection h2 with h2
  subst h2
  exact ⟨_, Tryd.underlying22, rfl⟩
theorem bldT60 : BldT Tryd.prog 60 [(0, 1), (1, 1), (2, 1)] [.d (.s ⟨#[]⟩), .nil, .nil] := ⟨_, _, Tryd.underlying60, Tryd.zeroValue60, rfl, fun w => by kernel_rfl⟩
theorem scT61 : ScT Tryd.prog 61 := ⟨_, Tryd.underlying61, rfl⟩
theorem zT61 : ZT Tryd.prog 61 [.junk] := ⟨_, Tryd.zeroValue61, rfl⟩
theorem scT62 : ScT Tryd.prog 62 := ⟨_, Tryd.underlying62, rfl⟩
theorem zT62 : ZT Tryd.prog 62 [.junk] := ⟨_, Tryd.zeroValue62, rfl⟩
theorem scT63 : ScT Tryd.prog 63 := ⟨_, Tryd.underlying63, rfl⟩
theorem zT63 : ZT Tryd.prog 63 [.junk] := ⟨_, Tryd.zeroValue63, rfl⟩
theorem scT64 : ScT Tryd.prog 64 := ⟨_, Tryd.underlying64, rfl⟩
theorem zT64 : ZT Tryd.prog 64 [.junk] := ⟨_, Tryd.zeroValue64, rfl⟩
theorem scT65 : ScT Tryd.prog 65 := ⟨_, Tryd.underlying65, rfl⟩
theorem zT65 : ZT Tryd.prog 65 [.junk] := ⟨_, Tryd.zeroValue65, rfl⟩
theorem scT66 : ScT Tryd.prog 66 := ⟨_, Tryd.underlying66, rfl⟩
theorem zT66 : ZT Tryd.prog 66 [.junk] := ⟨_, Tryd.zeroValue66, rfl⟩
theorem scT67 : ScT Tryd.prog 67 := ⟨_, Tryd.underlying67, rfl⟩
theorem zT67 : ZT Tryd.prog 67 [.junk] := ⟨_, Tryd.zeroValue67, rfl⟩
theorem scT68 : ScT Tryd.prog 68 := ⟨_, Tryd.underlying68, rfl⟩
theorem zT68 : ZT Tryd.prog 68 [.junk] := ⟨_, Tryd.zeroValue68, rfl⟩
theorem scT69 : ScT Tryd.prog 69 := ⟨_, Tryd.underlying69, rfl⟩
theorem zT69 : ZT Tryd.prog 69 [.junk] := ⟨_, Tryd.zeroValue69, rfl⟩
theorem agT70 : AgT Tryd.prog 70 3 := ⟨_, Tryd.underlying70, rfl, Tryd.sizeOf70⟩
theorem zT70 : ZT Tryd.prog 70 [.nil, .nil, .nil] := ⟨_, Tryd.zeroValue70, rfl⟩
theorem agT71 : AgT Tryd.prog 71 4 := ⟨_, Tryd.underlying71, rfl, Tryd.sizeOf71⟩
theorem zT71 : ZT Tryd.prog 71 [.d (.s ⟨#[]⟩), .nil, .nil, .nil] := ⟨_, Tryd.zeroValue71, rfl⟩
theorem fldT71_0 : FldT Tryd.prog 71 0 0 := ⟨_, _, 0, Tryd.underlying71, rfl, Tryd.sizeOf9, rfl⟩
theorem fldS71_0 : ∀ fs fd, Tryd.prog.underlying 71 = some (.struct fs) → fs[0]? = some fd → ScT Tryd.prog fd.type := fun fs fd h1 h2 => by
  rw [Tryd.underlying71] at h1
  injection h1 with h1
  injection h1 with h1
  subst h1
  injection h2 with h2
  subst h2
  exact ⟨_, Tryd.underlying9, rfl⟩
theorem fldT71_1 : FldT Tryd.prog 71 1 1 := ⟨_, _, 2, Tryd.underlying71, rfl, Tryd.sizeOf70, rfl⟩
theorem bldT71 : BldT Tryd.prog 71 [(0, 1), (1, 3)] [.d (.s ⟨#[]⟩), .nil, .nil, .nil] := ⟨_, _, Tryd.underlying71, Tryd.zeroValue71, rfl, fun w => by kernel_rfl⟩
theorem agT72 : AgT Tryd.prog 72 4 := ⟨_, Tryd.underlying72, rfl, Tryd.sizeOf72⟩
theorem zT72 : ZT Tryd.prog 72 [.d (.s ⟨#[]⟩), .nil, .nil, .nil] := ⟨_, Tryd.zeroValue72, rfl⟩
theorem fldT72_0 : FldT Tryd.prog 72 0 0 := ⟨_, _, 0, Tryd.underlying72, rfl, Tryd.sizeOf9, rfl⟩
theorem fldS72_0 : ∀ fs fd, Tryd.prog.underlying 72 = some (.struct fs) → fs[0]? = some fd → ScT Tryd.prog fd.type := fun fs fd h1 h2 => by
  rw [Tryd.underlying72] at h1
  injection h1 with h1
  injection h1 with h1
  subst h1
  injection h2 with h2
  subst h2
  exact ⟨_, Tryd.underlying9, rfl⟩
theorem fldT72_1 : FldT Tryd.prog 72 1 1 := ⟨_, _, 2, Tryd.underlying72, rfl, Tryd.sizeOf70, rfl⟩
theorem bldT72 : BldT Tryd.prog 72 [(0, 1), (1, 3)] [.d (.s ⟨#[]⟩), .nil, .nil, .nil] := ⟨_, _, Tryd.underlying72, Tryd.zeroValue72, rfl, fun w => by kernel_rfl⟩
theorem scT74 : ScT Tryd.prog 74 := ⟨_, Tryd.underlying74, rfl⟩
theorem zT74 : ZT Tryd.prog 74 [.junk] := ⟨_, Tryd.zeroValue74, rfl⟩
theorem scT75 : ScT Tryd.prog 75 := ⟨_, Tryd.underlying75, rfl⟩
theorem zT75 : ZT Tryd.prog 75 [.junk] := ⟨_, Tryd.zeroValue75, rfl⟩
theorem scT76 : ScT Tryd.prog 76 := ⟨_, Tryd.underlying76, rfl⟩
theorem zT76 : ZT Tryd.prog 76 [.junk] := ⟨_, Tryd.zeroValue76, rfl⟩
theorem scT77 : ScT Tryd.prog 77 := ⟨_, Tryd.underlying77, rfl⟩
theorem zT77 : ZT Tryd.prog 77 [.junk] := ⟨_, Tryd.zeroValue77, rfl⟩
theorem scT78 : ScT Tryd.prog 78 := ⟨_, Tryd.underlying78, rfl⟩
theorem zT78 : ZT Tryd.prog 78 [.junk] := ⟨_, Tryd.zeroValue78, rfl⟩
theorem scT79 : ScT Tryd.prog 79 := ⟨_, Tryd.underlying79, rfl⟩
theorem zT79 : ZT Tryd.prog 79 [.junk] := ⟨_, Tryd.zeroValue79, rfl⟩
theorem scT80 : ScT Tryd.prog 80 := ⟨_, Tryd.underlying80, rfl⟩
theorem zT80 : ZT Tryd.prog 80 [.junk] := ⟨_, Tryd.zeroValue80, rfl⟩
theorem scT81 : ScT Tryd.prog 81 := ⟨_, Tryd.underlying81, rfl⟩
theorem zT81 : ZT Tryd.prog 81 [.junk] := ⟨_, Tryd.zeroValue81, rfl⟩
theorem scT82 : ScT Tryd.prog 82 := ⟨_, Tryd.underlying82, rfl⟩
theorem zT82 : ZT Tryd.prog 82 [.junk] := ⟨_, Tryd.zeroValue82, rfl⟩
theorem scT83 : ScT Tryd.prog 83 := ⟨_, Tryd.underlying83, rfl⟩
theorem zT83 : ZT Tryd.prog 83 [.junk] := ⟨_, Tryd.zeroValue83, rfl⟩
theorem scT84 : ScT Tryd.prog 84 := ⟨_, Tryd.underlying84, rfl⟩
theorem zT84 : ZT Tryd.prog 84 [.junk] := ⟨_, Tryd.zeroValue84, rfl⟩
theorem scT85 : ScT Tryd.prog 85 := ⟨_, Tryd.underlying85, rfl⟩
theorem zT85 : ZT Tryd.prog 85 [.junk] := ⟨_, Tryd.zeroValue85, rfl⟩
theorem scT86 : ScT Tryd.prog 86 := ⟨_, Tryd.underlying86, rfl⟩
theorem zT86 : ZT Tryd.prog 86 [.junk] := ⟨_, Tryd.zeroValue86, rfl⟩
theorem scT87 : ScT Tryd.prog 87 := ⟨_, Tryd.underlying87, rfl⟩
theorem zT87 : ZT Tryd.prog 87 [.junk] := ⟨_, Tryd.zeroValue87, rfl⟩
theorem scT88 : ScT Tryd.prog 88 := ⟨_, Tryd.underlying88, rfl⟩
theorem zT88 : ZT Tryd.prog 88 [.junk] := ⟨_, Tryd.zeroValue88, rfl⟩
theorem scT90 : ScT Tryd.prog 90 := ⟨_, Tryd.underlying90, rfl⟩
theorem zT90 : ZT Tryd.prog 90 [.junk] := ⟨_, Tryd.zeroValue90, rfl⟩
theorem scT91 : ScT Tryd.prog 91 := ⟨_, Tryd.underlying91, rfl⟩
theorem zT91 : ZT Tryd.prog 91 [.junk] := ⟨_, Tryd.zeroValue91, rfl⟩
theorem scT92 : ScT Tryd.prog 92 := ⟨_, Tryd.underlying92, rfl⟩
theorem zT92 : ZT Tryd.prog 92 [.junk] := ⟨_, Tryd.zeroValue92, rfl⟩
theorem scT93 : ScT Tryd.prog 93 := ⟨_, Tryd.underlying93, rfl⟩
theorem zT93 : ZT Tryd.prog 93 [.junk] := ⟨_, Tryd.zeroValue93, rfl⟩
theorem scT94 : ScT Tryd.prog 94 := ⟨_, Tryd.underlying94, rfl⟩
theorem zT94 : ZT Tryd.prog 94 [.junk] := ⟨_, Tryd.zeroValue94, rfl⟩
theorem scT95 : ScT Tryd.prog 95 := ⟨_, Tryd.underlying95, rfl⟩
theorem zT95 : ZT Tryd.prog 95 [.junk] := ⟨_, Tryd.zeroValue95, rfl⟩
theorem scT96 : ScT Tryd.prog 96 := ⟨_, Tryd.underlying96, rfl⟩
theorem zT96 : ZT Tryd.prog 96 [.junk] := ⟨_, Tryd.zeroValue96, rfl⟩
theorem scT97 : ScT Tryd.prog 97 := ⟨_, Tryd.underlying97, rfl⟩
theorem zT97 : ZT Tryd.prog 97 [.junk] := ⟨_, Tryd.zeroValue97, rfl⟩
theorem scT98 : ScT Tryd.prog 98 := ⟨_, Tryd.underlying98, rfl⟩
theorem zT98 : ZT Tryd.prog 98 [.junk] := ⟨_, Tryd.zeroValue98, rfl⟩
theorem scT99 : ScT Tryd.prog 99 := ⟨_, Tryd.underlying99, rfl⟩
theorem zT99 : ZT Tryd.prog 99 [.junk] := ⟨_, Tryd.zeroValue99, rfl⟩
theorem scT100 : ScT Tryd.prog 100 := ⟨_, Tryd.underlying100, rfl⟩
theorem zT100 : ZT Tryd.prog 100 [.junk] := ⟨_, Tryd.zeroValue100, rfl⟩
theorem scT101 : ScT Tryd.prog 101 := ⟨_, Tryd.underlying101, rfl⟩
theorem zT101 : ZT Tryd.prog 101 [.junk] := ⟨_, Tryd.zeroValue101, rfl⟩
theorem scT102 : ScT Tryd.prog 102 := ⟨_, Tryd.underlying102, rfl⟩
theorem zT102 : ZT Tryd.prog 102 [.junk] := ⟨_, Tryd.zeroValue102, rfl⟩
theorem scT103 : ScT Tryd.prog 103 := ⟨_, Tryd.underlying103, rfl⟩
theorem zT103 : ZT Tryd.prog 103 [.junk] := ⟨_, Tryd.zeroValue103, rfl⟩
theorem scT104 : ScT Tryd.prog 104 := ⟨_, Tryd.underlying104, rfl⟩
theorem zT104 : ZT Tryd.prog 104 [.junk] := ⟨_, Tryd.zeroValue104, rfl⟩
theorem scT105 : ScT Tryd.prog 105 := ⟨_, Tryd.underlying105, rfl⟩
theorem zT105 : ZT Tryd.prog 105 [.junk] := ⟨_, Tryd.zeroValue105, rfl⟩
theorem agT106 : AgT Tryd.prog 106 3 := ⟨_, Tryd.underlying106, rfl, Tryd.sizeOf106⟩
theorem zT106 : ZT Tryd.prog 106 [.nil, .nil, .nil] := ⟨_, Tryd.zeroValue106, rfl⟩
theorem scT107 : ScT Tryd.prog 107 := ⟨_, Tryd.underlying107, rfl⟩
theorem zT107 : ZT Tryd.prog 107 [.junk] := ⟨_, Tryd.zeroValue107, rfl⟩
theorem scT108 : ScT Tryd.prog 108 := ⟨_, Tryd.underlying108, rfl⟩
theorem zT108 : ZT Tryd.prog 108 [.junk] := ⟨_, Tryd.zeroValue108, rfl⟩
theorem scT109 : ScT Tryd.prog 109 := ⟨_, Tryd.underlying109, rfl⟩
theorem zT109 : ZT Tryd.prog 109 [.junk] := ⟨_, Tryd.zeroValue109, rfl⟩
theorem scT110 : ScT Tryd.prog 110 := ⟨_, Tryd.underlying110, rfl⟩
theorem zT110 : ZT Tryd.prog 110 [.junk] := ⟨_, Tryd.zeroValue110, rfl⟩
theorem scT111 : ScT Tryd.prog 111 := ⟨_, Tryd.underlying111, rfl⟩
theorem zT111 : ZT Tryd.prog 111 [.junk] := ⟨_, Tryd.zeroValue111, rfl⟩
theorem scT112 : ScT Tryd.prog 112 := ⟨_, Tryd.underlying112, rfl⟩
theorem zT112 : ZT Tryd.prog 112 [.junk] := ⟨_, Tryd.zeroValue112, rfl⟩
theorem scT113 : ScT Tryd.prog 113 := ⟨_, Tryd.underlying113, rfl⟩
theorem zT113 : ZT Tryd.prog 113 [.junk] := ⟨_, Tryd.zeroValue113, rfl⟩
theorem scT114 : ScT Tryd.prog 114 := ⟨_, Tryd.underlying114, rfl⟩
theorem zT114 : ZT Tryd.prog 114 [.junk] := ⟨_, Tryd.zeroValue114, rfl⟩
theorem scT115 : ScT Tryd.prog 115 := ⟨_, Tryd.underlying115, rfl⟩
theorem zT115 : ZT Tryd.prog 115 [.junk] := ⟨_, Tryd.zeroValue115, rfl⟩
theorem scT116 : ScT Tryd.prog 116 := ⟨_, Tryd.underlying116, rfl⟩
theorem zT116 : ZT Tryd.prog 116 [.junk] := ⟨_, Tryd.zeroValue116, rfl⟩
theorem scT118 : ScT Tryd.prog 118 := ⟨_, Tryd.underlying118, rfl⟩
theorem zT118 : ZT Tryd.prog 118 [.junk] := ⟨_, Tryd.zeroValue118, rfl⟩
theorem scT119 : ScT Tryd.prog 119 := ⟨_, Tryd.underlying119, rfl⟩
theorem zT119 : ZT Tryd.prog 119 [.junk] := ⟨_, Tryd.zeroValue119, rfl⟩
theorem scT120 : ScT Tryd.prog 120 := ⟨_, Tryd.underlying120, rfl⟩
theorem zT120 : ZT Tryd.prog 120 [.junk] := ⟨_, Tryd.zeroValue120, rfl⟩
theorem scT121 : ScT Tryd.prog 121 := ⟨_, Tryd.underlying121, rfl⟩
theorem zT121 : ZT Tryd.prog 121 [.junk] := ⟨_, Tryd.zeroValue121, rfl⟩
theorem scT122 : ScT Tryd.prog 122 := ⟨_, Tryd.underlying122, rfl⟩
theorem zT122 : ZT Tryd.prog 122 [.junk] := ⟨_, Tryd.zeroValue122, rfl⟩
theorem scT123 : ScT Tryd.prog 123 := ⟨_, Tryd.underlying123, rfl⟩
theorem zT123 : ZT Tryd.prog 123 [.junk] := ⟨_, Tryd.zeroValue123, rfl⟩
theorem scT124 : ScT Tryd.prog 124 := ⟨_, Tryd.underlying124, rfl⟩
theorem zT124 : ZT Tryd.prog 124 [.d (.i .u64 0)] := ⟨_, Tryd.zeroValue124, rfl⟩
theorem scT125 : ScT Tryd.prog 125 := ⟨_, Tryd.underlying125, rfl⟩
theorem zT125 : ZT Tryd.prog 125 [.junk] := ⟨_, Tryd.zeroValue125, rfl⟩
theorem scT126 : ScT Tryd.prog 126 := ⟨_, Tryd.underlying126, rfl⟩
theorem zT126 : ZT Tryd.prog 126 [.junk] := ⟨_, Tryd.zeroValue126, rfl⟩
theorem scT127 : ScT Tryd.prog 127 := ⟨_, Tryd.underlying127, rfl⟩
theorem zT127 : ZT Tryd.prog 127 [.junk] := ⟨_, Tryd.zeroValue127, rfl⟩
theorem scT128 : ScT Tryd.prog 128 := ⟨_, Tryd.underlying128, rfl⟩
theorem zT128 : ZT Tryd.prog 128 [.junk] := ⟨_, Tryd.zeroValue128, rfl⟩
theorem scT129 : ScT Tryd.prog 129 := ⟨_, Tryd.underlying129, rfl⟩
theorem zT129 : ZT Tryd.prog 129 [.junk] := ⟨_, Tryd.zeroValue129, rfl⟩
theorem scT130 : ScT Tryd.prog 130 := ⟨_, Tryd.underlying130, rfl⟩
theorem zT130 : ZT Tryd.prog 130 [.junk] := ⟨_, Tryd.zeroValue130, rfl⟩
theorem scT131 : ScT Tryd.prog 131 := ⟨_, Tryd.underlying131, rfl⟩
theorem zT131 : ZT Tryd.prog 131 [.junk] := ⟨_, Tryd.zeroValue131, rfl⟩
theorem scT132 : ScT Tryd.prog 132 := ⟨_, Tryd.underlying132, rfl⟩
theorem zT132 : ZT Tryd.prog 132 [.d (.i .i64 0)] := ⟨_, Tryd.zeroValue132, rfl⟩
theorem scT134 : ScT Tryd.prog 134 := ⟨_, Tryd.underlying134, rfl⟩
theorem zT134 : ZT Tryd.prog 134 [.junk] := ⟨_, Tryd.zeroValue134, rfl⟩
theorem scT135 : ScT Tryd.prog 135 := ⟨_, Tryd.underlying135, rfl⟩
theorem zT135 : ZT Tryd.prog 135 [.junk] := ⟨_, Tryd.zeroValue135, rfl⟩
theorem scT136 : ScT Tryd.prog 136 := ⟨_, Tryd.underlying136, rfl⟩
theorem zT136 : ZT Tryd.prog 136 [.junk] := ⟨_, Tryd.zeroValue136, rfl⟩
theorem scT137 : ScT Tryd.prog 137 := ⟨_, Tryd.underlying137, rfl⟩
theorem zT137 : ZT Tryd.prog 137 [.junk] := ⟨_, Tryd.zeroValue137, rfl⟩
theorem scT138 : ScT Tryd.prog 138 := ⟨_, Tryd.underlying138, rfl⟩
theorem zT138 : ZT Tryd.prog 138 [.junk] := ⟨_, Tryd.zeroValue138, rfl⟩
theorem scT139 : ScT Tryd.prog 139 := ⟨_, Tryd.underlying139, rfl⟩
theorem zT139 : ZT Tryd.prog 139 [.d (.i .u32 0)] := ⟨_, Tryd.zeroValue139, rfl⟩
theorem scT140 : ScT Tryd.prog 140 := ⟨_, Tryd.underlying140, rfl⟩
theorem zT140 : ZT Tryd.prog 140 [.junk] := ⟨_, Tryd.zeroValue140, rfl⟩
theorem scT141 : ScT Tryd.prog 141 := ⟨_, Tryd.underlying141, rfl⟩
theorem zT141 : ZT Tryd.prog 141 [.d (.i .u64 0)] := ⟨_, Tryd.zeroValue141, rfl⟩
theorem scT142 : ScT Tryd.prog 142 := ⟨_, Tryd.underlying142, rfl⟩
theorem zT142 : ZT Tryd.prog 142 [.junk] := ⟨_, Tryd.zeroValue142, rfl⟩
theorem scT143 : ScT Tryd.prog 143 := ⟨_, Tryd.underlying143, rfl⟩
theorem zT143 : ZT Tryd.prog 143 [.junk] := ⟨_, Tryd.zeroValue143, rfl⟩
theorem scT144 : ScT Tryd.prog 144 := ⟨_, Tryd.underlying144, rfl⟩
theorem zT144 : ZT Tryd.prog 144 [.junk] := ⟨_, Tryd.zeroValue144, rfl⟩
theorem scT145 : ScT Tryd.prog 145 := ⟨_, Tryd.underlying145, rfl⟩
theorem zT145 : ZT Tryd.prog 145 [.d (.i .u64 0)] := ⟨_, Tryd.zeroValue145, rfl⟩
theorem scT146 : ScT Tryd.prog 146 := ⟨_, Tryd.underlying146, rfl⟩
theorem zT146 : ZT Tryd.prog 146 [.junk] := ⟨_, Tryd.zeroValue146, rfl⟩
theorem scT147 : ScT Tryd.prog 147 := ⟨_, Tryd.underlying147, rfl⟩
theorem zT147 : ZT Tryd.prog 147 [.junk] := ⟨_, Tryd.zeroValue147, rfl⟩
theorem scT148 : ScT Tryd.prog 148 := ⟨_, Tryd.underlying148, rfl⟩
theorem zT148 : ZT Tryd.prog 148 [.junk] := ⟨_, Tryd.zeroValue148, rfl⟩
theorem scT149 : ScT Tryd.prog 149 := ⟨_, Tryd.underlying149, rfl⟩
theorem zT149 : ZT Tryd.prog 149 [.junk] := ⟨_, Tryd.zeroValue149, rfl⟩
theorem scT150 : ScT Tryd.prog 150 := ⟨_, Tryd.underlying150, rfl⟩
theorem zT150 : ZT Tryd.prog 150 [.junk] := ⟨_, Tryd.zeroValue150, rfl⟩
theorem scT151 : ScT Tryd.prog 151 := ⟨_, Tryd.underlying151, rfl⟩
theorem zT151 : ZT Tryd.prog 151 [.junk] := ⟨_, Tryd.zeroValue151, rfl⟩
theorem agT152 : AgT Tryd.prog 152 1 := ⟨_, Tryd.underlying152, rfl, Tryd.sizeOf152⟩
theorem zT152 : ZT Tryd.prog 152 [.d (.i .i64 0)] := ⟨_, Tryd.zeroValue152, rfl⟩
theorem fldT152_0 : FldT Tryd.prog 152 0 0 := ⟨_, _, 0, Tryd.underlying152, rfl, Tryd.sizeOf3, rfl⟩
theorem fldS152_0 : ∀ fs fd, Tryd.prog.underlying 152 = some (.struct fs) → fs[0]? = some fd → ScT Tryd.prog fd.type := fun fs fd h1 h2 => by
  rw [Tryd.underlying152] at h1
  injection h1 with h1
  injection h1 with h1
  subst h1
  injection h2 with h2
  subst h2
  exact ⟨_, Tryd.underlying3, rfl⟩
theorem bldT152 : BldT Tryd.prog 152 [(0, 1)] [.d (.i .i64 0)] := ⟨_, _, Tryd.underlying152, Tryd.zeroValue152, rfl, fun w => by kernel_rfl⟩
theorem eqf152 {d : Nat} {w : World} {a0 b0 : Int} : (Op.equalIn (d + 20) 152 (.agg #[.int .i64 a0]) (.agg #[.int .i64 b0])).run Tryd.prog w = .ok (decide (a0 = b0)) w := by
  refine (eqA Tryd.underlying152 (by kernel_rfl)).trans ?_
  exact eqf_last (a := .int .i64 a0) (b := .int .i64 b0) rfl (by simp [part, run_isAgg Tryd.underlying3, aggTy]) (by simp [part, run_isAgg Tryd.underlying3, aggTy]) (eq_int Tryd.underlying3)
theorem eqg152 {d : Nat} {w : World} {a0 b0 : Int} : (Op.equalIn (d + 19) 152 (.agg #[.int .i64 a0]) (.agg #[.int .i64 b0])).run Tryd.prog w = .ok (decide (a0 = b0)) w := by
  refine (eqA Tryd.underlying152 (by kernel_rfl)).trans ?_
  exact eqf_last (a := .int .i64 a0) (b := .int .i64 b0) rfl (by simp [part, run_isAgg Tryd.underlying3, aggTy]) (by simp [part, run_isAgg Tryd.underlying3, aggTy]) (eq_int Tryd.underlying3)
theorem veq152 {ro : Option Nat} {h : H} {ρ : Operand → AV} {o : Oper} {t' : TypeId} {x y : Operand} {a0 b0 : Int} {r : Bool} (ho : o.op = .binOp .eql 152 x y t') (hx : ρ x = .agg [.d (.i .i64 a0)]) (hy : ρ y = .agg [.d (.i .i64 b0)]) (hr : (decide (a0 = b0)) = r) : OpV ro Tryd.prog h ρ o (.d (.b r)) := by
  subst hr
  exact opv_agg_eql (by kernel_rfl) ho hx hy rfl rfl (fun w => eqf152)
theorem vne152 {ro : Option Nat} {h : H} {ρ : Operand → AV} {o : Oper} {t' : TypeId} {x y : Operand} {a0 b0 : Int} {r : Bool} (ho : o.op = .binOp .neq 152 x y t') (hx : ρ x = .agg [.d (.i .i64 a0)]) (hy : ρ y = .agg [.d (.i .i64 b0)]) (hr : (!decide (a0 = b0)) = r) : OpV ro Tryd.prog h ρ o (.d (.b r)) := by
  subst hr
  exact opv_agg_neq (by kernel_rfl) ho hx hy rfl rfl (fun w => eqf152) rfl
theorem agT153 : AgT Tryd.prog 153 1 := ⟨_, Tryd.underlying153, rfl, Tryd.sizeOf153⟩
theorem zT153 : ZT Tryd.prog 153 [.d (.i .i64 0)] := ⟨_, Tryd.zeroValue153, rfl⟩
theorem fldT153_0 : FldT Tryd.prog 153 0 0 := ⟨_, _, 0, Tryd.underlying153, rfl, Tryd.sizeOf3, rfl⟩
theorem fldS153_0 : ∀ fs fd, Tryd.prog.underlying 153 = some (.struct fs) → fs[0]? = some fd → ScT Tryd.prog fd.type := fun fs fd h1 h2 => by
  rw [Tryd.underlying153] at h1
  injection h1 with h1
  injection h1 with h1
  subst h1
  injection h2 with h2
  subst h2
  exact ⟨_, Tryd.underlying3, rfl⟩
theorem bldT153 : BldT Tryd.prog 153 [(0, 1)] [.d (.i .i64 0)] := ⟨_, _, Tryd.underlying153, Tryd.zeroValue153, rfl, fun w => by kernel_rfl⟩
theorem eqf153 {d : Nat} {w : World} {a0 b0 : Int} : (Op.equalIn (d + 20) 153 (.agg #[.int .i64 a0]) (.agg #[.int .i64 b0])).run Tryd.prog w = .ok (decide (a0 = b0)) w := by
  refine (eqA Tryd.underlying153 (by kernel_rfl)).trans ?_
  exact eqf_last (a := .int .i64 a0) (b := .int .i64 b0) rfl (by simp [part, run_isAgg Tryd.underlying3, aggTy]) (by simp [part, run_isAgg Tryd.underlying3, aggTy]) (eq_int Tryd.underlying3)
theorem eqg153 {d : Nat} {w : World} {a0 b0 : Int} : (Op.equalIn (d + 19) 153 (.agg #[.int .i64 a0]) (.agg #[.int .i64 b0])).run Tryd.prog w = .ok (decide (a0 = b0)) w := by
  refine (eqA Tryd.underlying153 (by kernel_rfl)).trans ?_
  exact eqf_last (a := .int .i64 a0) (b := .int .i64 b0) rfl (by simp [part, run_isAgg Tryd.underlying3, aggTy]) (by simp [part, run_isAgg Tryd.underlying3, aggTy]) (eq_int Tryd.underlying3)
theorem veq153 {ro : Option Nat} {h : H} {ρ : Operand → AV} {o : Oper} {t' : TypeId} {x y : Operand} {a0 b0 : Int} {r : Bool} (ho : o.op = .binOp .eql 153 x y t') (hx : ρ x = .agg [.d (.i .i64 a0)]) (hy : ρ y = .agg [.d (.i .i64 b0)]) (hr : (decide (a0 = b0)) = r) : OpV ro Tryd.prog h ρ o (.d (.b r)) := by
  subst hr
  exact opv_agg_eql (by kernel_rfl) ho hx hy rfl rfl (fun w => eqf153)
theorem vne153 {ro : Option Nat} {h : H} {ρ : Operand → AV} {o : Oper} {t' : TypeId} {x y : Operand} {a0 b0 : Int} {r : Bool} (ho : o.op = .binOp .neq 153 x y t') (hx : ρ x = .agg [.d (.i .i64 a0)]) (hy : ρ y = .agg [.d (.i .i64 b0)]) (hr : (!decide (a0 = b0)) = r) : OpV ro Tryd.prog h ρ o (.d (.b r)) := by
  subst hr
  exact opv_agg_neq (by kernel_rfl) ho hx hy rfl rfl (fun w => eqf153) rfl
theorem scT155 : ScT Tryd.prog 155 := ⟨_, Tryd.underlying155, rfl⟩
theorem zT155 : ZT Tryd.prog 155 [.junk] := ⟨_, Tryd.zeroValue155, rfl⟩
theorem scT156 : ScT Tryd.prog 156 := ⟨_, Tryd.underlying156, rfl⟩
theorem zT156 : ZT Tryd.prog 156 [.junk] := ⟨_, Tryd.zeroValue156, rfl⟩
theorem scT157 : ScT Tryd.prog 157 := ⟨_, Tryd.underlying157, rfl⟩
theorem zT157 : ZT Tryd.prog 157 [.junk] := ⟨_, Tryd.zeroValue157, rfl⟩
theorem scT159 : ScT Tryd.prog 159 := ⟨_, Tryd.underlying159, rfl⟩
theorem zT159 : ZT Tryd.prog 159 [.junk] := ⟨_, Tryd.zeroValue159, rfl⟩
theorem scT161 : ScT Tryd.prog 161 := ⟨_, Tryd.underlying161, rfl⟩
theorem zT161 : ZT Tryd.prog 161 [.junk] := ⟨_, Tryd.zeroValue161, rfl⟩
theorem scT162 : ScT Tryd.prog 162 := ⟨_, Tryd.underlying162, rfl⟩
theorem zT162 : ZT Tryd.prog 162 [.junk] := ⟨_, Tryd.zeroValue162, rfl⟩
theorem agT164 : AgT Tryd.prog 164 2 := ⟨_, Tryd.underlying164, rfl, Tryd.sizeOf164⟩
theorem zT164 : ZT Tryd.prog 164 [.d (.i .u8 0), .d (.i .u8 0)] := ⟨_, Tryd.zeroValue164, rfl⟩
theorem fldT164_0 : FldT Tryd.prog 164 0 0 := ⟨_, _, 0, Tryd.underlying164, rfl, Tryd.sizeOf5, rfl⟩
theorem fldS164_0 : ∀ fs fd, Tryd.prog.underlying 164 = some (.struct fs) → fs[0]? = some fd → ScT Tryd.prog fd.type := fun fs fd h1 h2 => by
  rw [Tryd.underlying164] at h1
  injection h1 with h1
  injection h1 with h1
  subst h1
  injection h2 with h2
  subst h2
  exact ⟨_, Tryd.underlying5, rfl⟩
theorem fldT164_1 : FldT Tryd.prog 164 1 1 := ⟨_, _, 0, Tryd.underlying164, rfl, Tryd.sizeOf5, rfl⟩
theorem fldS164_1 : ∀ fs fd, Tryd.prog.underlying 164 = some (.struct fs) → fs[1]? = some fd → ScT Tryd.prog fd.type := fun fs fd h1 h2 => by
  rw [Tryd.underlying164] at h1
  injection h1 with h1
  injection h1 with h1
  subst h1
  injection h2 with h2
  subst h2
  exact ⟨_, Tryd.underlying5, rfl⟩
theorem bldT164 : BldT Tryd.prog 164 [(0, 1), (1, 1)] [.d (.i .u8 0), .d (.i .u8 0)] := ⟨_, _, Tryd.underlying164, Tryd.zeroValue164, rfl, fun w => by kernel_rfl⟩
theorem eqf164 {d : Nat} {w : World} {a0 b0 : Int} {a1 b1 : Int} : (Op.equalIn (d + 20) 164 (.agg #[.int .u8 a0, .int .u8 a1]) (.agg #[.int .u8 b0, .int .u8 b1])).run Tryd.prog w = .ok (decide (a0 = b0 ∧ a1 = b1)) w := by
  refine (eqA Tryd.underlying164 (by kernel_rfl)).trans ?_
  refine eqf_cons (a := .int .u8 a0) (b := .int .u8 b0) rfl (by simp [part, run_isAgg Tryd.underlying5, aggTy]) (by simp [part, run_isAgg Tryd.underlying5, aggTy]) (eq_int Tryd.underlying5) ?_
  exact eqf_last (a := .int .u8 a1) (b := .int .u8 b1) rfl (by simp [part, run_isAgg Tryd.underlying5, aggTy]) (by simp [part, run_isAgg Tryd.underlying5, aggTy]) (eq_int Tryd.underlying5)
theorem eqg164 {d : Nat} {w : World} {a0 b0 : Int} {a1 b1 : Int} : (Op.equalIn (d + 19) 164 (.agg #[.int .u8 a0, .int .u8 a1]) (.agg #[.int .u8 b0, .int .u8 b1])).run Tryd.prog w = .ok (decide (a0 = b0 ∧ a1 = b1)) w := by
  refine (eqA Tryd.underlying164 (by kernel_rfl)).trans ?_
  refine eqf_cons (a := .int .u8 a0) (b := .int .u8 b0) rfl (by simp [part, run_isAgg Tryd.underlying5, aggTy]) (by simp [part, run_isAgg Tryd.underlying5, aggTy]) (eq_int Tryd.underlying5) ?_
  exact eqf_last (a := .int .u8 a1) (b := .int .u8 b1) rfl (by simp [part, run_isAgg Tryd.underlying5, aggTy]) (by simp [part, run_isAgg Tryd.underlying5, aggTy]) (eq_int Tryd.underlying5)
theorem veq164 {ro : Option Nat} {h : H} {ρ : Operand → AV} {o : Oper} {t' : TypeId} {x y : Operand} {a0 b0 : Int} {a1 b1 : Int} {r : Bool} (ho : o.op = .binOp .eql 164 x y t') (hx : ρ x = .agg [.d (.i .u8 a0), .d (.i .u8 a1)]) (hy : ρ y = .agg [.d (.i .u8 b0), .d (.i .u8 b1)]) (hr : (decide (a0 = b0 ∧ a1 = b1)) = r) : OpV ro Tryd.prog h ρ o (.d (.b r)) := by
  subst hr
  exact opv_agg_eql (by kernel_rfl) ho hx hy rfl rfl (fun w => eqf164)
theorem vne164 {ro : Option Nat} {h : H} {ρ : Operand → AV} {o : Oper} {t' : TypeId} {x y : Operand} {a0 b0 : Int} {a1 b1 : Int} {r : Bool} (ho : o.op = .binOp .neq 164 x y t') (hx : ρ x = .agg [.d (.i .u8 a0), .d (.i .u8 a1)]) (hy : ρ y = .agg [.d (.i .u8 b0), .d (.i .u8 b1)]) (hr : (!decide (a0 = b0 ∧ a1 = b1)) = r) : OpV ro Tryd.prog h ρ o (.d (.b r)) := by
  subst hr
  exact opv_agg_neq (by kernel_rfl) ho hx hy rfl rfl (fun w => eqf164) rfl
theorem agT165 : AgT Tryd.prog 165 2 := ⟨_, Tryd.underlying165, rfl, Tryd.sizeOf165⟩
theorem zT165 : ZT Tryd.prog 165 [.d (.i .u8 0), .d (.i .u8 0)] := ⟨_, Tryd.zeroValue165, rfl⟩
theorem fldT165_0 : FldT Tryd.prog 165 0 0 := ⟨_, _, 0, Tryd.underlying165, rfl, Tryd.sizeOf5, rfl⟩
theorem fldS165_0 : ∀ fs fd, Tryd.prog.underlying 165 = some (.struct fs) → fs[0]? = some fd → ScT Tryd.prog fd.type := fun fs fd h1 h2 => by
  rw [Tryd.underlying165] at h1
  injection h1 with h1
  injection h1 with h1
  subst h1
  injection h2 with h2
  subst h2
  exact ⟨_, Tryd.underlying5, rfl⟩
theorem fldT165_1 : FldT Tryd.prog 165 1 1 := ⟨_, _, 0, Tryd.underlying165, rfl, Tryd.sizeOf5, rfl⟩
theorem fldS165_1 : ∀ fs fd, Tryd.prog.underlying 165 = some (.struct fs) → fs[1]? = some fd → ScT Tryd.prog fd.type := fun fs fd h1 h2 => by
  rw [Tryd.underlying165] at h1
  injection h1 with h1
  injection h1 with h1
  subst h1
  injection h2 with h2
  subst h2
  exact ⟨_, Tryd.underlying5, rfl⟩
theorem bldT165 : BldT Tryd.prog 165 [(0, 1), (1, 1)] [.d (.i .u8 0), .d (.i .u8 0)] := ⟨_, _, Tryd.underlying165, Tryd.zeroValue165, rfl, fun w => by kernel_rfl⟩
theorem eqf165 {d : Nat} {w : World} {a0 b0 : Int} {a1 b1 : Int} : (Op.equalIn (d + 20) 165 (.agg #[.int .u8 a0, .int .u8 a1]) (.agg #[.int .u8 b0, .int .u8 b1])).run Tryd.prog w = .ok (decide (a0 = b0 ∧ a1 = b1)) w := by
  refine (eqA Tryd.underlying165 (by kernel_rfl)).trans ?_
  refine eqf_cons (a := .int .u8 a0) (b := .int .u8 b0) rfl (by simp [part, run_isAgg Tryd.underlying5, aggTy]) (by simp [part, run_isAgg Tryd.underlying5, aggTy]) (eq_int Tryd.underlying5) ?_
  exact eqf_last (a := .int .u8 a1) (b := .int .u8 b1) rfl (by simp [part, run_isAgg Tryd.underlying5, aggTy]) (by simp [part, run_isAgg Tryd.underlying5, aggTy]) (eq_int Tryd.underlying5)
theorem eqg165 {d : Nat} {w : World} {a0 b0 : Int} {a1 b1 : Int} : (Op.equalIn (d + 19) 165 (.agg #[.int .u8 a0, .int .u8 a1]) (.agg #[.int .u8 b0, .int .u8 b1])).run Tryd.prog w = .ok (decide (a0 = b0 ∧ a1 = b1)) w := by
  refine (eqA Tryd.underlying165 (by kernel_rfl)).trans ?_
  refine eqf_cons (a := .int .u8 a0) (b := .int .u8 b0) rfl (by simp [part, run_isAgg Tryd.underlying5, aggTy]) (by simp [part, run_isAgg Tryd.underlying5, aggTy]) (eq_int Tryd.underlying5) ?_
  exact eqf_last (a := .int .u8 a1) (b := .int .u8 b1) rfl (by simp [part, run_isAgg Tryd.underlying5, aggTy]) (by simp [part, run_isAgg Tryd.underlying5, aggTy]) (eq_int Tryd.underlying5)
theorem veq165 {ro : Option Nat} {h : H} {ρ : Operand → AV} {o : Oper} {t' : TypeId} {x y : Operand} {a0 b0 : Int} {a1 b1 : Int} {r : Bool} (ho : o.op = .binOp .eql 165 x y t') (hx : ρ x = .agg [.d (.i .u8 a0), .d (.i .u8 a1)]) (hy : ρ y = .agg [.d (.i .u8 b0), .d (.i .u8 b1)]) (hr : (decide (a0 = b0 ∧ a1 = b1)) = r) : OpV ro Tryd.prog h ρ o (.d (.b r)) := by
  subst hr
  exact opv_agg_eql (by kernel_rfl) ho hx hy rfl rfl (fun w => eqf165)
theorem vne165 {ro : Option Nat} {h : H} {ρ : Operand → AV} {o : Oper} {t' : TypeId} {x y : Operand} {a0 b0 : Int} {a1 b1 : Int} {r : Bool} (ho : o.op = .binOp .neq 165 x y t') (hx : ρ x = .agg [.d (.i .u8 a0), .d (.i .u8 a1)]) (hy : ρ y = .agg [.d (.i .u8 b0), .d (.i .u8 b1)]) (hr : (!decide (a0 = b0 ∧ a1 = b1)) = r) : OpV ro Tryd.prog h ρ o (.d (.b r)) := by
  subst hr
  exact opv_agg_neq (by kernel_rfl) ho hx hy rfl rfl (fun w => eqf165) rfl
theorem scT167 : ScT Tryd.prog 167 := ⟨_, Tryd.underlying167, rfl⟩
theorem zT167 : ZT Tryd.prog 167 [.junk] := ⟨_, Tryd.zeroValue167, rfl⟩
theorem scT173 : ScT Tryd.prog 173 := ⟨_, Tryd.underlying173, rfl⟩
theorem zT173 : ZT Tryd.prog 173 [.junk] := ⟨_, Tryd.zeroValue173, rfl⟩
theorem scT176 : ScT Tryd.prog 176 := ⟨_, Tryd.underlying176, rfl⟩
theorem zT176 : ZT Tryd.prog 176 [.junk] := ⟨_, Tryd.zeroValue176, rfl⟩
theorem scT177 : ScT Tryd.prog 177 := ⟨_, Tryd.underlying177, rfl⟩
theorem zT177 : ZT Tryd.prog 177 [.junk] := ⟨_, Tryd.zeroValue177, rfl⟩
end Go.Proofs.YtjnkbmodcddbkaaDoor
