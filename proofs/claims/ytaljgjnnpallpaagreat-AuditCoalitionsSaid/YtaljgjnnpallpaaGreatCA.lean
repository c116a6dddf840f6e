/- Contracts of the functions, one by one: numbers, schemes, wishes. And what follows from there. -/
import Derived.Test.YtaljgjnnpallpaaGreatB0
section
set_option linter.unusedVariables false
set_option linter.unusedSimpArgs false
namespace Go.Ab
open Go.RowKit Go.Proofs

theorem w64eq (n : Int) : IntKind.i64.wrap n = (n + 9223372036854775808) % 18446744073709551616 - 9223372036854775808 := by
  simp [IntKind.wrap, IntKind.signed, IntKind.bits]
  split <;> omega
theorem w64 {n : Int} (h : -9223372036854775808 ≤ n ∧ n ≤ 9223372036854775807) : IntKind.i64.wrap n = n := IntWalk.i64_in _ h

theorem pc130 (m a b : Int) (hm : m ≠ 0) : PureCall Tryz.prog 130 [.int .i64 m, .int .i64 a, .int .i64 b] (.int .i64 ((IntKind.i64.wrap (a + b)).tmod m)) := by
  refine pureCall Tryz.func130 rfl Tryz.ntmps130 rfl ?_
  simp only [go_sem]
  refine W.thn (by simp only [go_sem]; exact ⟨rfl, rfl⟩) ?_
  refine W.thn (by simp only [go_sem, hm]; exact ⟨rfl, rfl⟩) ?_
  refine W.ret ⟨.inr rfl, _, res1 Tryz.results130, ?_⟩
  simp only [go_sem]
  exact Weak.refl _
theorem pc131 (m a : Int) : PureCall Tryz.prog 131 [.int .i64 m, .int .i64 a] (.bool (decide (0 ≤ a) && decide (a < m))) := by
  refine pureCall Tryz.func131 rfl Tryz.ntmps131 rfl ?_
  simp only [go_sem]
  refine W.thn (by simp only [go_sem]; exact ⟨rfl, rfl⟩) ?_
  by_cases h : 0 ≤ a
  · refine W.thn (by simp only [go_sem, h]; exact ⟨rfl, rfl⟩) ?_
    refine W.ret ⟨.inr rfl, _, res1 Tryz.results131, ?_⟩
    simp only [go_sem, h]
    exact Weak.refl _
  · refine W.thn (by simp only [go_sem, h]; exact ⟨rfl, rfl⟩) ?_
    refine W.ret ⟨.inr rfl, _, res1 Tryz.results131, ?_⟩
    simp only [go_sem, h]
    exact Weak.refl _

def smallest (p : Nat) : Bool := (List.range 256).all fun c => decide (c < 2) || decide (p < c * c) || p % c != 0
def fieldOk (p : Int) : Bool := decide (2 ≤ p) && decide (p ≤ 65521) && smallest p.toNat

theorem smallest_iff {p : Nat} (hp : p ≤ 65521) : smallest p = true ↔ ∀ d, 2 ≤ d → d * d ≤ p → p % d ≠ 0 := by
  simp only [smallest, List.all_eq_true, List.mem_range, Bool.or_eq_true, decide_eq_true_eq, bne_iff_ne]
  constructor
  · intro h d h2 hd
    have : d < 256 := by
      refine Nat.lt_of_not_le fun h' => ?_
      have := Nat.mul_le_mul h' h'
      omega
    rcases h d this with (h' | h') | h'
    · omega
    · omega
    · exact h'
  · intro h c _
    by_cases h1 : c < 2
    · exact .inl (.inl h1)
    · by_cases h2 : p < c * c
      · exact .inl (.inr h2)
      · exact .inr (h c (by omega) (by omega))

theorem pc126 (p : Int) : PureCall Tryz.prog 126 [.agg [.int .i64 p]] (.tuple [.int .i64 (if fieldOk p then p else 0), .bool (fieldOk p)]) := by
  refine pureCall Tryz.func126 rfl Tryz.ntmps126 rfl ?_
  simp only [go_sem]
  refine W.thn (by simp only [go_sem]; exact ⟨rfl, rfl⟩) ?_
  refine W.seq ?_
  by_cases h1 : p < 2
  · have e : fieldOk p = false := by simp [fieldOk]; omega
    refine W.thn (by simp only [go_sem, h1]; exact ⟨rfl, rfl⟩) ?_
    refine W.condT rfl ?_
    refine W.thn (by simp only [go_sem]; exact ⟨rfl, rfl⟩) ?_
    refine W.ret ⟨.inr rfl, _, res2 Tryz.results126, ?_⟩
    simp only [go_sem, e]
    exact Weak.refl _
  by_cases h2 : 65521 < p
  · have e : fieldOk p = false := by simp [fieldOk]; omega
    refine W.thn (by simp only [go_sem, h1, h2]; exact ⟨rfl, rfl⟩) ?_
    refine W.condT rfl ?_
    refine W.thn (by simp only [go_sem]; exact ⟨rfl, rfl⟩) ?_
    refine W.ret ⟨.inr rfl, _, res2 Tryz.results126, ?_⟩
    simp only [go_sem, e]
    exact Weak.refl _
  have hok : fieldOk p = smallest p.toNat := by
    unfold fieldOk
    rw [decide_eq_true (show 2 ≤ p by omega), decide_eq_true (show p ≤ 65521 by omega)]
    simp
  refine W.thn (by simp only [go_sem, h1, h2]; exact ⟨rfl, rfl⟩) ?_
  refine W.condF rfl ?_
  refine W.skip ?_
  refine W.seq ?_
  refine W.thn (by simp only [go_sem]; exact ⟨rfl, rfl⟩) ?_
  refine W.block ?_
  refine W.loopE [1, 4] (fun n l H => ∃ c : Nat, 2 ≤ c ∧ n = 257 - c ∧ c ≤ 256 ∧ (∀ d, 2 ≤ d → d < c → p.toNat % d ≠ 0) ∧ l = [(1, .ptr 0 0 1), (4, .int .i64 c)] ∧ H = [.blk [.int .i64 p] 1 false]) ⟨255, 2, by omega, by omega, by omega, by omega, by simp only [go_sem]; rfl, rfl⟩ fun n l H ⟨c, hc, hn, hc2, hd, e1, e2⟩ => ?_
  subst e1; subst e2
  have hcc : c * c ≤ 256 * 256 := Nat.mul_le_mul hc2 hc2
  have h0 : ((c * c : Nat) : Int) = (c : Int) * c := by simp
  have hw : IntKind.i64.wrap ((c : Int) * c) = (c : Int) * c := w64 (by omega)
  refine W.seq ?_
  refine W.thn (by simp only [go_sem, hw]; exact ⟨rfl, rfl⟩) ?_
  refine W.ifP rfl (fun h => ?_) fun h => ?_
  · have hc3 : c ≤ 255 := by
      refine Nat.le_of_not_lt fun h' => ?_
      have := Nat.mul_le_mul (show 256 ≤ c by omega) (show 256 ≤ c by omega)
      omega
    refine W.skip ?_
    refine W.seq ?_
    refine W.block ?_
    have hm : p.tmod c = ((p.toNat % c : Nat) : Int) := by
      rw [Int.tmod_eq_emod_of_nonneg (by omega)]
      have : p = (p.toNat : Int) := by omega
      rw [this]; simp
    refine W.thn (by simp only [go_sem, show ¬ (c : Int) = 0 by omega]; exact ⟨rfl, rfl⟩) ?_
    refine W.ifP rfl (fun hz => ?_) fun hz => ?_
    · rw [hm] at hz
      have e : fieldOk p = false := by
        rw [hok, Bool.eq_false_iff]
        intro hs
        exact (smallest_iff (by omega)).1 hs c hc (by omega) (by omega)
      refine W.thn (by simp only [go_sem]; exact ⟨rfl, rfl⟩) ?_
      refine W.ret ⟨.inr rfl, _, res2 Tryz.results126, ?_⟩
      simp only [go_sem, e]
      exact Weak.refl _
    · rw [hm] at hz
      refine W.skip ?_
      have hw2 : IntKind.i64.wrap ((c : Int) + 1) = ((c + 1 : Nat) : Int) := w64 (by omega)
      refine W.lst (by simp only [go_sem, hw2]; exact ⟨rfl, rfl⟩) ?_
      refine ⟨_, 256 - c, rfl, by omega, c + 1, by omega, by omega, by omega, fun d hd2 hd3 => ?_, by simp only [go_sem], rfl⟩
      rcases Nat.lt_or_ge d c with h' | h'
      · exact hd d hd2 h'
      · rw [show d = c by omega]; omega
  · refine W.exit ?_
    refine W.thn (by simp only [go_sem]; exact ⟨rfl, rfl⟩) ?_
    refine W.ret ⟨.inr rfl, _, res2 Tryz.results126, ?_⟩
    have e : fieldOk p = true := by
      rw [hok, smallest_iff (by omega)]
      intro d hd2 hd3
      refine hd d hd2 (Nat.lt_of_not_le fun h' => ?_)
      have := Nat.mul_le_mul h' h'
      omega
    simp only [go_sem, e]
    exact Weak.refl _

/-! ### schemes -/
def within (n lo hi : Int) : Bool := decide (lo ≤ n ∧ n ≤ hi)
theorem pc112 (n lo hi : Int) : PureCall Tryz.prog 112 [.int .i64 n, .int .i64 lo, .int .i64 hi] (.bool (within n lo hi)) := by
  refine pureCall Tryz.func112 rfl Tryz.ntmps112 rfl ?_
  simp only [go_sem]
  -- 0: t6 := assign(false)
  refine W.thn (by simp only [go_sem]; exact ⟨rfl, rfl⟩) ?_
  -- 1: t7 := move(t0); t8 := move(t1); t9 := (geq, 3, t7, t8, 3); t10 := move(t9); t11 := move(t0) Gsome((3, true)); t12 := move(t2) Gsome((3, true)); t13 := (leq, 3, t11, t12, 3) Gsome((3, true)); t14 := pick(t10, t13, false); t6 := assign(t14)
  refine W.thnK fun K hK => ?_
  simp only [go_sem]
  refine guardW_t (fun h1 => ?_) fun h1 => ?_
  ·
    simp only [go_sem, h1]
    refine hK _ _ ?_
    refine W.ret ⟨.inr rfl, _, res1 Tryz.results112, ?_⟩
    simp only [go_sem, h1]
    exact Weak.of_eq (congrArg AV.bool (Bool.eq_iff_iff.2 (by simp only [within, w64eq, Bool.and_eq_true, Bool.or_eq_true, Bool.not_eq_true', decide_eq_true_eq, decide_eq_false_iff_not, Bool.false_eq_true, true_iff, false_iff, iff_true, iff_false] at h1 ⊢; omega)))
  ·
    simp only [go_sem, h1]
    refine hK _ _ ?_
    refine W.ret ⟨.inr rfl, _, res1 Tryz.results112, ?_⟩
    simp only [go_sem, h1]
    exact Weak.of_eq (congrArg AV.bool (Bool.eq_iff_iff.2 (by simp only [within, w64eq, Bool.and_eq_true, Bool.or_eq_true, Bool.not_eq_true', decide_eq_true_eq, decide_eq_false_iff_not, Bool.false_eq_true, true_iff, false_iff, iff_true, iff_false] at h1 ⊢; omega)))

structure Sch where
  k : Int
  s : Int
  d : Int
  g : Int
def Sch.av (x : Sch) : AV := .agg [.int .i64 x.k, .int .i64 x.s, .int .i64 x.d, .int .i64 x.g]
@[go_sem] theorem Sch.av_eq (x : Sch) : x.av = .agg [.int .i64 x.k, .int .i64 x.s, .int .i64 x.d, .int .i64 x.g] := rfl
def shapeOk (x : Sch) : Bool := decide (2 ≤ x.s ∧ x.s ≤ 10 ∧ ((x.k = 1 ∧ x.d = 0 ∧ x.g = 0) ∨ (x.k = 2 ∧ 1 ≤ x.d ∧ x.d ≤ x.s - 1 ∧ x.g = 0) ∨ (x.k = 3 ∧ 1 ≤ x.d ∧ x.d ≤ x.s ∧ 1 ≤ x.g ∧ x.g ≤ x.s ∧ 2 * x.g + x.d - 1 ≤ x.s)))
theorem pc88 (x : Sch) : PureCall Tryz.prog 88 [x.av] (.bool (shapeOk x)) := by
  refine pureCall Tryz.func88 rfl Tryz.ntmps88 rfl ?_
  simp only [go_sem]
  -- 0: t1 := box(27, t0); t2 := assign(false)
  refine W.thn (by simp only [go_sem]; exact ⟨rfl, rfl⟩) ?_
  refine W.seq ?_
  -- 1: t3 := fieldAddr(27, t1, 1); t4 := load(3, t3); t5 := call(value(F112<scheme.within>)[t4, 2, 10]); t6 := unOp(not, 4, t5)
  refine W.thn (by
    simp only [go_sem]
    refine WP_pc (pc112 _ _ _) ent112 (by simp only [go_sem, aTarget] <;> rfl) rfl rfl ?_ -- call(value(F112<scheme.within>)[t4, 2, 10])
    simp only [go_sem]
    exact ⟨rfl, rfl⟩) ?_
  refine W.ifNB rfl (fun h1 => ?_) fun h1 => ?_ -- t6
  ·
    -- 2: t2 := assign(false)
    refine W.thn (by simp only [go_sem, h1]; exact ⟨rfl, rfl⟩) ?_
    refine W.ret ⟨.inr rfl, _, res1 Tryz.results88, ?_⟩
    simp only [go_sem, h1]
    exact Weak.of_eq (congrArg AV.bool (Bool.eq_iff_iff.2 (by simp only [within, shapeOk, w64eq, Bool.and_eq_true, Bool.or_eq_true, Bool.not_eq_true', decide_eq_true_eq, decide_eq_false_iff_not, Bool.false_eq_true, true_iff, false_iff, iff_true, iff_false] at h1 ⊢; omega)))
  ·
    refine W.skip ?_
    refine W.seq ?_
    -- 3: t7 := fieldAddr(27, t1, 0); t8 := load(3, t7)
    refine W.thn (by simp only [go_sem, h1]; exact ⟨rfl, rfl⟩) ?_
    refine W.block ?_
    -- 4: t10 := (eql, 3, t8, 1, 3); t9 := assign(t10)
    refine W.thn (by simp only [go_sem, h1]; exact ⟨rfl, rfl⟩) ?_
    refine W.ifB rfl (fun h2 => ?_) fun h2 => ?_ -- t9
    ·
      -- 5: t11 := fieldAddr(27, t1, 2); t12 := load(3, t11); t13 := (eql, 3, t12, 0, 3); t14 := move(t13); t15 := fieldAddr(27, t1, 3) Gsome((3, true)); t16 := load(3, t15) Gsome((3, true)); t17 := (eql, 3, t16, 0, 3) Gsome((3, true)); t18 := pick(t14, t17, false); t2 := assign(t18)
      refine W.thnK fun K hK => ?_
      simp only [go_sem, h1, h2]
      refine guardW_t (fun h3 => ?_) fun h3 => ?_
      ·
        simp only [go_sem, h1, h2, h3]
        refine hK _ _ ?_
        refine W.ret ⟨.inr rfl, _, res1 Tryz.results88, ?_⟩
        simp only [go_sem, h1, h2, h3]
        exact Weak.of_eq (congrArg AV.bool (Bool.eq_iff_iff.2 (by simp only [within, shapeOk, w64eq, Bool.and_eq_true, Bool.or_eq_true, Bool.not_eq_true', decide_eq_true_eq, decide_eq_false_iff_not, Bool.false_eq_true, true_iff, false_iff, iff_true, iff_false] at h1 h2 h3 ⊢; omega)))
      ·
        simp only [go_sem, h1, h2, h3]
        refine hK _ _ ?_
        refine W.ret ⟨.inr rfl, _, res1 Tryz.results88, ?_⟩
        simp only [go_sem, h1, h2, h3]
        exact Weak.of_eq (congrArg AV.bool (Bool.eq_iff_iff.2 (by simp only [within, shapeOk, w64eq, Bool.and_eq_true, Bool.or_eq_true, Bool.not_eq_true', decide_eq_true_eq, decide_eq_false_iff_not, Bool.false_eq_true, true_iff, false_iff, iff_true, iff_false] at h1 h2 h3 ⊢; omega)))
    ·
      -- 6: t20 := (eql, 3, t8, 2, 3); t19 := assign(t20)
      refine W.thn (by simp only [go_sem, h1, h2]; exact ⟨rfl, rfl⟩) ?_
      refine W.ifB rfl (fun h4 => ?_) fun h4 => ?_ -- t19
      ·
        -- 7: t21 := fieldAddr(27, t1, 2); t22 := load(3, t21); t23 := fieldAddr(27, t1, 1); t24 := load(3, t23); t25 := (sub, 3, t24, 1, 3); t26 := call(value(F112<scheme.within>)[t22, 1, t25]); t27 := move(t26); t28 := fieldAddr(27, t1, 3) Gsome((6, true)); t29 := load(3, t28) Gsome((6, true)); t30 := (eql, 3, t29, 0, 3) Gsome((6, true)); t31 := pick(t27, t30, false); t2 := assign(t31)
        refine W.thnK fun K hK => ?_
        simp only [go_sem, h1, h2, h4]
        refine WP_pc (pc112 _ _ _) ent112 (by simp only [go_sem, aTarget] <;> rfl) rfl rfl ?_ -- call(value(F112<scheme.within>)[t22, 1, t25])
        simp only [go_sem, h1, h2, h4]
        refine guardW_t (fun h5 => ?_) fun h5 => ?_
        ·
          simp only [go_sem, h1, h2, h4, h5]
          refine hK _ _ ?_
          refine W.ret ⟨.inr rfl, _, res1 Tryz.results88, ?_⟩
          simp only [go_sem, h1, h2, h4, h5]
          exact Weak.of_eq (congrArg AV.bool (Bool.eq_iff_iff.2 (by simp only [within, shapeOk, w64eq, Bool.and_eq_true, Bool.or_eq_true, Bool.not_eq_true', decide_eq_true_eq, decide_eq_false_iff_not, Bool.false_eq_true, true_iff, false_iff, iff_true, iff_false] at h1 h2 h4 h5 ⊢; omega)))
        ·
          simp only [go_sem, h1, h2, h4, h5]
          refine hK _ _ ?_
          refine W.ret ⟨.inr rfl, _, res1 Tryz.results88, ?_⟩
          simp only [go_sem, h1, h2, h4, h5]
          exact Weak.of_eq (congrArg AV.bool (Bool.eq_iff_iff.2 (by simp only [within, shapeOk, w64eq, Bool.and_eq_true, Bool.or_eq_true, Bool.not_eq_true', decide_eq_true_eq, decide_eq_false_iff_not, Bool.false_eq_true, true_iff, false_iff, iff_true, iff_false] at h1 h2 h4 h5 ⊢; omega)))
      ·
        -- 8: t33 := (eql, 3, t8, 3, 3); t32 := assign(t33)
        refine W.thn (by simp only [go_sem, h1, h2, h4]; exact ⟨rfl, rfl⟩) ?_
        refine W.ifB rfl (fun h6 => ?_) fun h6 => ?_ -- t32
        ·
          -- 9: t34 := fieldAddr(27, t1, 2); t35 := load(3, t34); t36 := fieldAddr(27, t1, 1); t37 := load(3, t36); t38 := call(value(F112<scheme.within>)[t35, 1, t37]); t39 := move(t38); t40 := fieldAddr(27, t1, 3) Gsome((5, true)); t41 := load(3, t40) Gsome((5, true)); t42 := fieldAddr(27, t1, 1) Gsome((5, true)); t43 := load(3, t42) Gsome((5, true)); t44 := call(value(F112<scheme.within>)[t41, 1, t43]) Gsome((5, true)); t45 := pick(t39, t44, false); t46 := move(t45); t47 := fieldAddr(27, t1, 3) Gsome((12, true)); t48 := load(3, t47) Gsome((12, true)); t49 := (mul, 3, 2, t48, 3) Gsome((12, true)); t50 := fieldAddr(27, t1, 2) Gsome((12, true)); t51 := load(3, t50) Gsome((12, true)); t52 := (add, 3, t49, t51, 3) Gsome((12, true)); t53 := (sub, 3, t52, 1, 3) Gsome((12, true)); t54 := fieldAddr(27, t1, 1) Gsome((12, true)); t55 := load(3, t54) Gsome((12, true)); t56 := (leq, 3, t53, t55, 3) Gsome((12, true)); t57 := pick(t46, t56, false); t2 := assign(t57)
          refine W.thnK fun K hK => ?_
          simp only [go_sem, h1, h2, h4, h6]
          refine WP_pc (pc112 _ _ _) ent112 (by simp only [go_sem, aTarget] <;> rfl) rfl rfl ?_ -- call(value(F112<scheme.within>)[t35, 1, t37])
          simp only [go_sem, h1, h2, h4, h6]
          refine guardW_t (fun h7 => ?_) fun h7 => ?_
          ·
            simp only [go_sem, h1, h2, h4, h6, h7]
            refine WP_pc (pc112 _ _ _) ent112 (by simp only [go_sem, aTarget] <;> rfl) rfl rfl ?_ -- call(value(F112<scheme.within>)[t41, 1, t43])
            simp only [go_sem, h1, h2, h4, h6, h7]
            refine guardW_t (fun h8 => ?_) fun h8 => ?_
            ·
              simp only [go_sem, h1, h2, h4, h6, h7, h8]
              refine hK _ _ ?_
              refine W.ret ⟨.inr rfl, _, res1 Tryz.results88, ?_⟩
              simp only [go_sem, h1, h2, h4, h6, h7, h8]
              exact Weak.of_eq (congrArg AV.bool (Bool.eq_iff_iff.2 (by simp only [within, shapeOk, w64eq, Bool.and_eq_true, Bool.or_eq_true, Bool.not_eq_true', decide_eq_true_eq, decide_eq_false_iff_not, Bool.false_eq_true, true_iff, false_iff, iff_true, iff_false] at h1 h2 h4 h6 h7 h8 ⊢; omega)))
            ·
              simp only [go_sem, h1, h2, h4, h6, h7, h8]
              refine hK _ _ ?_
              refine W.ret ⟨.inr rfl, _, res1 Tryz.results88, ?_⟩
              simp only [go_sem, h1, h2, h4, h6, h7, h8]
              exact Weak.of_eq (congrArg AV.bool (Bool.eq_iff_iff.2 (by simp only [within, shapeOk, w64eq, Bool.and_eq_true, Bool.or_eq_true, Bool.not_eq_true', decide_eq_true_eq, decide_eq_false_iff_not, Bool.false_eq_true, true_iff, false_iff, iff_true, iff_false] at h1 h2 h4 h6 h7 h8 ⊢; omega)))
          ·
            simp only [go_sem, h1, h2, h4, h6, h7]
            refine hK _ _ ?_
            refine W.ret ⟨.inr rfl, _, res1 Tryz.results88, ?_⟩
            simp only [go_sem, h1, h2, h4, h6, h7]
            exact Weak.of_eq (congrArg AV.bool (Bool.eq_iff_iff.2 (by simp only [within, shapeOk, w64eq, Bool.and_eq_true, Bool.or_eq_true, Bool.not_eq_true', decide_eq_true_eq, decide_eq_false_iff_not, Bool.false_eq_true, true_iff, false_iff, iff_true, iff_false] at h1 h2 h4 h6 h7 ⊢; omega)))
        ·
          refine W.skip ?_
          -- 10: t2 := assign(false)
          refine W.thn (by simp only [go_sem, h1, h2, h4, h6]; exact ⟨rfl, rfl⟩) ?_
          refine W.ret ⟨.inr rfl, _, res1 Tryz.results88, ?_⟩
          simp only [go_sem, h1, h2, h4, h6]
          exact Weak.of_eq (congrArg AV.bool (Bool.eq_iff_iff.2 (by simp only [within, shapeOk, w64eq, Bool.and_eq_true, Bool.or_eq_true, Bool.not_eq_true', decide_eq_true_eq, decide_eq_false_iff_not, Bool.false_eq_true, true_iff, false_iff, iff_true, iff_false] at h1 h2 h4 h6 ⊢; omega)))

def errOf (ok : Bool) (e : Int) : Int := if ok then 0 else e
@[go_sem] theorem err_ok9 (b : Bool) : decide (errOf b 9 = 0) = b := by cases b <;> simp [errOf]
theorem pc102 (p : Int) : PureCall Tryz.prog 102 [.agg [.int .i64 p]] (.int .i64 (errOf (fieldOk p) 9)) := by
  refine pureCall Tryz.func102 rfl Tryz.ntmps102 rfl ?_
  simp only [go_sem]
  -- 0: t1 := box(30, t0); t2 := assign(0)
  refine W.thn (by simp only [go_sem]; exact ⟨rfl, rfl⟩) ?_
  refine W.seq ?_
  -- 1: t6 := load(30, t1); t7 := call(value(F126<residue.Of>)[t6]); t5 := move(t7); t8 := extract(t5, 0); t9 := extract(t5, 1); t3 := assign(t8); t4 := assign(t9)
  refine W.thn (by
    simp only [go_sem]
    refine WP_pc (pc126 _) ent126 (by simp only [go_sem, aTarget] <;> rfl) rfl rfl ?_ -- call(value(F126<residue.Of>)[t6])
    simp only [go_sem]
    exact ⟨rfl, rfl⟩) ?_
  -- 2: t10 := move(t4); t11 := unOp(not, 4, t10)
  refine W.thn (by simp only [go_sem]; exact ⟨rfl, rfl⟩) ?_
  refine W.ifNB rfl (fun h1 => ?_) fun h1 => ?_ -- t11
  ·
    -- 3: t2 := assign(9)
    refine W.thn (by simp only [go_sem, h1]; exact ⟨rfl, rfl⟩) ?_
    refine W.ret ⟨.inr rfl, _, res1 Tryz.results102, ?_⟩
    simp only [go_sem, h1]
    exact Weak.of_eq (by simp only [errOf, h1]; rfl)
  ·
    refine W.skip ?_
    -- 4: t2 := assign(0)
    refine W.thn (by simp only [go_sem, h1]; exact ⟨rfl, rfl⟩) ?_
    refine W.ret ⟨.inr rfl, _, res1 Tryz.results102, ?_⟩
    simp only [go_sem, h1]
    exact Weak.of_eq (by simp only [errOf, h1]; rfl)

def schOk (x : Sch) (p : Int) : Bool := shapeOk x && fieldOk p && decide (x.k = 1 ∨ x.s < p)
theorem pc60 (x : Sch) (p : Int) : PureCall Tryz.prog 60 [x.av, .agg [.int .i64 p]] (.bool (schOk x p)) := by
  refine pureCall Tryz.func60 rfl Tryz.ntmps60 rfl ?_
  simp only [go_sem]
  -- 0: t2 := box(27, t0); t3 := box(30, t1); t4 := assign(false)
  refine W.thn (by simp only [go_sem]; exact ⟨rfl, rfl⟩) ?_
  -- 1: t5 := load(27, t2); t6 := call(value(F88<scheme.Shape>)[t5]); t7 := move(t6); t8 := load(30, t3) Gsome((2, true)); t9 := call(value(F102<field.Check>)[t8]) Gsome((2, true)); t10 := (eql, 37, t9, 0, 37) Gsome((2, true)); t11 := pick(t7, t10, false); t12 := move(t11); t13 := fieldAddr(27, t2, 0) Gsome((7, true)); t14 := load(3, t13) Gsome((7, true)); t15 := (eql, 3, t14, 1, 3) Gsome((7, true)); t16 := move(t15) Gsome((7, true)); t17 := fieldAddr(27, t2, 1) Gsome((11, false)); t18 := load(3, t17) Gsome((11, false)); t19 := fieldAddr(30, t3, 0) Gsome((11, false)); t20 := load(3, t19) Gsome((11, false)); t21 := (lss, 3, t18, t20, 3) Gsome((11, false)); t22 := pick(t16, true, t21) Gsome((7, true)); t23 := pick(t12, t22, false); t4 := assign(t23)
  refine W.thnK fun K hK => ?_
  simp only [go_sem]
  refine WP_pc (pc88 _) ent88 (by simp only [go_sem, aTarget] <;> rfl) rfl rfl ?_ -- call(value(F88<scheme.Shape>)[t5])
  simp only [go_sem]
  refine guardW_t (fun h1 => ?_) fun h1 => ?_
  ·
    simp only [go_sem, h1]
    refine WP_pc (pc102 _) ent102 (by simp only [go_sem, aTarget] <;> rfl) rfl rfl ?_ -- call(value(F102<field.Check>)[t8])
    simp only [go_sem, h1]
    refine guardW_t (fun h2 => ?_) fun h2 => ?_
    ·
      simp only [go_sem, h1, h2]
      refine guardW_f (fun h3 => ?_) fun h3 => ?_
      ·
        simp only [go_sem, h1, h2, h3]
        refine hK _ _ ?_
        refine W.ret ⟨.inr rfl, _, res1 Tryz.results60, ?_⟩
        simp only [go_sem, h1, h2, h3]
        exact Weak.of_eq (congrArg AV.bool (by simp [schOk, h1, h2, h3]))
      ·
        simp only [go_sem, h1, h2, h3]
        refine hK _ _ ?_
        refine W.ret ⟨.inr rfl, _, res1 Tryz.results60, ?_⟩
        simp only [go_sem, h1, h2, h3]
        exact Weak.of_eq (congrArg AV.bool (by simp [schOk, h1, h2, h3]))
    ·
      simp only [go_sem, h1, h2]
      refine hK _ _ ?_
      refine W.ret ⟨.inr rfl, _, res1 Tryz.results60, ?_⟩
      simp only [go_sem, h1, h2]
      exact Weak.of_eq (congrArg AV.bool (by simp [schOk, h1, h2]))
  ·
    simp only [go_sem, h1]
    refine hK _ _ ?_
    refine W.ret ⟨.inr rfl, _, res1 Tryz.results60, ?_⟩
    simp only [go_sem, h1]
    exact Weak.of_eq (congrArg AV.bool (by simp [schOk, h1]))
end Go.Ab
end
section
set_option linter.unusedVariables false
set_option linter.unusedSimpArgs false
namespace Go.Ab
open Go.RowKit Go.Proofs

theorem pc103 (n lo hi : Int) : PureCall Tryz.prog 103 [.int .i64 n, .int .i64 lo, .int .i64 hi] (.bool (within n lo hi)) := by
  refine pureCall Tryz.func103 rfl Tryz.ntmps103 rfl ?_
  simp only [go_sem]
  -- 0: t6 := assign(false)
  refine W.thn (by simp only [go_sem]; exact ⟨rfl, rfl⟩) ?_
  -- 1: t7 := move(t0); t8 := move(t1); t9 := (geq, 3, t7, t8, 3); t10 := move(t9); t11 := move(t0) Gsome((3, true)); t12 := move(t2) Gsome((3, true)); t13 := (leq, 3, t11, t12, 3) Gsome((3, true)); t14 := pick(t10, t13, false); t6 := assign(t14)
  refine W.thnK fun K hK => ?_
  simp only [go_sem]
  refine guardW_t (fun h1 => ?_) fun h1 => ?_
  ·
    simp only [go_sem, h1]
    refine hK _ _ ?_
    refine W.ret ⟨.inr rfl, _, res1 Tryz.results103, ?_⟩
    simp only [go_sem, h1]
    exact Weak.of_eq (congrArg AV.bool (Bool.eq_iff_iff.2 (by simp only [within, w64eq, Bool.and_eq_true, Bool.or_eq_true, Bool.not_eq_true', decide_eq_true_eq, decide_eq_false_iff_not, Bool.false_eq_true, true_iff, false_iff, iff_true, iff_false] at h1 ⊢; omega)))
  ·
    simp only [go_sem, h1]
    refine hK _ _ ?_
    refine W.ret ⟨.inr rfl, _, res1 Tryz.results103, ?_⟩
    simp only [go_sem, h1]
    exact Weak.of_eq (congrArg AV.bool (Bool.eq_iff_iff.2 (by simp only [within, w64eq, Bool.and_eq_true, Bool.or_eq_true, Bool.not_eq_true', decide_eq_true_eq, decide_eq_false_iff_not, Bool.false_eq_true, true_iff, false_iff, iff_true, iff_false] at h1 ⊢; omega)))

/-- A slice of numbers that stays as it is. -/
def ints (xs : List Int) : AV := .vals 1 (xs.map (AV.int .i64)) false
@[go_sem] theorem ints_eq (xs : List Int) : ints xs = .vals 1 (xs.map (AV.int .i64)) false := rfl
def firstAt (p : Int → Bool) (xs : List Int) : Int := match xs.findIdx? p with | some i => (i : Int) | none => -1
theorem wrapS {j : Nat} (h : j < 4611686018427387904) : IntKind.i64.wrap ((j : Int) + 1) = ((j + 1 : Nat) : Int) := w64 (by omega)
theorem pc145 (xs : List Int) (hl : xs.length < 4611686018427387904) (g : FuncId) (cap : List AV) (p : Int → Bool) (hg : enters Tryz.prog g = true) (hcap : pureBs cap = true) (hp : ∀ x, x ∈ xs → PureCall Tryz.prog g (.int .i64 x :: cap) (.bool (p x))) :
    PureCall Tryz.prog 145 [ints xs, .func g [] cap] (.int .i64 (firstAt p xs)) := by
  refine pureCall Tryz.func145 rfl Tryz.ntmps145 rfl ?_
  simp only [go_sem]
  -- 0: t4 := assign(0)
  refine W.thn (by simp only [go_sem]; exact ⟨rfl, rfl⟩) ?_
  refine W.seq ?_
  -- 1: t6 := move(t0); t7 := call(builtin(len)[t6]); t8 := move(0)
  refine W.thn (by simp only [go_sem]; exact ⟨rfl, rfl⟩) ?_
  refine W.block ?_
  refine W.loopE [0, 1, 7, 8] (fun m l H => ∃ j : Nat, j ≤ xs.length ∧ m = xs.length - j ∧ (∀ i x, i < j → xs[i]? = some x → p x = false) ∧ l = [(0, ints xs), (1, .func g [] cap), (7, .int .i64 xs.length), (8, .int .i64 j)] ∧ H = []) ⟨xs.length, 0, by omega, by omega, fun i x h => by omega, by simp only [go_sem]; rfl, rfl⟩ fun m l H ⟨j, hj, hm, hno, e1, e2⟩ => ?_
  subst e1; subst e2
  -- 2: t9 := (lss, 3, t8, t7, 3)
  refine W.thn (by simp only [go_sem]; exact ⟨rfl, rfl⟩) ?_
  refine W.seq ?_
  refine W.ifB rfl (fun h1 => ?_) fun h1 => ?_ -- t9
  ·
    simp only [decide_eq_true_eq] at h1
    have hjl : j < xs.length := by omega
    have hx0 : xs[j]? = some xs[j] := List.getElem?_eq_getElem hjl
    have hx : xs[j] ∈ xs := List.getElem_mem _
    generalize xs[j] = x at hx0 hx
    have hjx : ((j : Int) < (xs.length : Int)) = True := eq_true h1
    refine W.skip ?_
    refine W.seq ?_
    refine W.block ?_
    -- 3: t10 := move(t8); t5 := assign(t10)
    refine W.thn (by simp only [go_sem, hjl, at0 hx0]; exact ⟨rfl, rfl⟩) ?_
    -- 4: t11 := move(t1); t12 := move(t0); t13 := move(t5); t14 := indexAddr(33, t12, t13); t15 := load(3, t14); t16 := call(value(t11)[t15])
    refine W.thn (by
      simp only [go_sem, hjl, at0 hx0]
      refine WP_pc (hp x hx) hg (by simp only [go_sem, aTarget]) (by simp only [pureBs, AV.pureB, hcap]; rfl) rfl ?_ -- call(value(t11)[t15])
      simp only [go_sem, hjl, at0 hx0]
      exact ⟨rfl, rfl⟩) ?_
    refine W.ifB rfl (fun h2 => ?_) fun h2 => ?_ -- t16
    ·
      -- 5: t17 := move(t5); t4 := assign(t17)
      refine W.thn (by simp only [go_sem, h2, wrapS (show j < 4611686018427387904 by omega)]; exact ⟨rfl, rfl⟩) ?_
      refine W.ret ⟨.inr rfl, _, res1 Tryz.results145, ?_⟩
      simp only [go_sem, h2, wrapS (show j < 4611686018427387904 by omega)]
      refine Weak.of_eq ?_
      have : xs.findIdx? p = some j := by
        rw [List.findIdx?_eq_some_iff_getElem]
        refine ⟨hjl, ?_, fun i hi => ?_⟩
        · have := (List.getElem?_eq_some_iff.1 hx0).2
          rw [this]; exact h2
        · exact fun hh => by
            have := hno i _ hi (List.getElem?_eq_getElem (by omega))
            rw [hh] at this; cases this
      simp only [firstAt, this]
    ·
      refine W.skip ?_
      -- 6: t18 := (add, 3, t8, 1, 3); t8 := move(t18)
      refine W.lst (by simp only [go_sem, h2, wrapS (show j < 4611686018427387904 by omega)]; exact ⟨rfl, rfl⟩) ?_
      refine ⟨_, xs.length - (j + 1), rfl, by omega, j + 1, by omega, by omega, fun i y hi hy => ?_, by simp only [go_sem], rfl⟩
      rcases Nat.lt_or_ge i j with h' | h'
      · exact hno i y h' hy
      · have e : i = j := by omega
        rw [e, hx0] at hy
        rw [← Option.some.inj hy]; exact h2
  ·
    refine W.exit ?_ -- to 0
    -- 7: t4 := assign(-1)
    refine W.thn (by simp only [go_sem]; exact ⟨rfl, rfl⟩) ?_
    refine W.ret ⟨.inr rfl, _, res1 Tryz.results145, ?_⟩
    simp only [go_sem]
    refine Weak.of_eq ?_
    simp only [decide_eq_false_iff_not] at h1
    have : xs.findIdx? p = none := by
      rw [List.findIdx?_eq_none_iff]
      intro x hx
      obtain ⟨i, hi, rfl⟩ := List.mem_iff_getElem.1 hx
      exact hno i _ (by omega) (List.getElem?_eq_getElem hi)
    simp only [firstAt, this]
theorem firstAt_any (p : Int → Bool) (xs : List Int) : decide (0 ≤ firstAt p xs) = xs.any p := by
  unfold firstAt
  cases h : xs.findIdx? p with
  | none =>
    rw [List.findIdx?_eq_none_iff] at h
    have : xs.any p = false := by rw [List.any_eq_false]; exact fun x hx => by rw [h x hx]; simp
    rw [this]; rfl
  | some i =>
    have h2 : xs.any p = true := by
      rw [List.findIdx?_eq_some_iff_getElem] at h
      obtain ⟨h1, h3, _⟩ := h
      rw [List.any_eq_true]; exact ⟨_, List.getElem_mem h1, h3⟩
    rw [h2]; simp
theorem pc104 (xs : List Int) (hl : xs.length < 4611686018427387904) (g : FuncId) (cap : List AV) (p : Int → Bool) (hg : enters Tryz.prog g = true) (hcap : pureBs cap = true) (hp : ∀ x, x ∈ xs → PureCall Tryz.prog g (.int .i64 x :: cap) (.bool (p x))) :
    PureCall Tryz.prog 104 [ints xs, .func g [] cap] (.bool (xs.any p)) := by
  refine pureCall Tryz.func104 rfl Tryz.ntmps104 rfl ?_
  simp only [go_sem]
  -- 0: t4 := assign(false)
  refine W.thn (by simp only [go_sem]; exact ⟨rfl, rfl⟩) ?_
  -- 1: t5 := move(t0); t6 := move(t1); t7 := call(value(F145<slices.IndexFunc[[]int,int]>)[t5, t6]); t8 := (geq, 3, t7, 0, 3); t4 := assign(t8)
  refine W.thn (by
    simp only [go_sem]
    refine WP_pc (pc145 xs hl g cap p hg hcap hp) ent145 (by simp only [go_sem, aTarget]) (by simp only [ints, pureBs, AV.pureB, hcap]; rfl) rfl ?_ -- call(value(F145<slices.IndexFunc[[]int,int]>)[t5, t6])
    simp only [go_sem]
    exact ⟨rfl, rfl⟩) ?_
  refine W.ret ⟨.inr rfl, _, res1 Tryz.results104, ?_⟩
  simp only [go_sem]
  exact Weak.of_eq (by rw [firstAt_any])
theorem pc105 (x n : Int) (hn : -4611686018427387904 < n ∧ n < 4611686018427387904) : PureCall Tryz.prog 105 [.int .i64 x, .cptr [.int .i64 n]] (.bool (!within x (-1) (n - 1))) := by
  refine pureCall Tryz.func105 rfl Tryz.ntmps105 rfl ?_
  simp only [go_sem]
  -- 0: t3 := assign(false)
  refine W.thn (by simp only [go_sem]; exact ⟨rfl, rfl⟩) ?_
  -- 1: t4 := move(t0); t5 := load(3, t1); t6 := (sub, 3, t5, 1, 3); t7 := call(value(F103<wish.within>)[t4, -1, t6]); t8 := unOp(not, 4, t7); t3 := assign(t8)
  refine W.thn (by
    simp only [go_sem]
    refine WP_pc (pc103 x (-1) (n - 1)) ent103 (by simp only [go_sem, aTarget, w64 (show -9223372036854775808 ≤ n - 1 ∧ n - 1 ≤ 9223372036854775807 by omega)]) rfl rfl ?_ -- call(value(F103<wish.within>)[t4, -1, t6])
    simp only [go_sem]
    exact ⟨rfl, rfl⟩) ?_
  refine W.ret ⟨.inr rfl, _, res1 Tryz.results105, ?_⟩
  simp only [go_sem]
  exact Weak.refl _

def wishOk (xs : List Int) (n : Int) : Bool := within n 1 1024 && within xs.length 1 16 && xs.all fun x => within x (-1) (n - 1)
theorem pc61 (xs : List Int) (n : Int) (hl : xs.length < 4611686018427387904) : PureCall Tryz.prog 61 [ints xs, .int .i64 n] (.bool (wishOk xs n)) := by
  refine pureCall Tryz.func61 rfl Tryz.ntmps61 rfl ?_
  simp only [go_sem]
  -- 0: t3 := box(3, t1); t4 := assign(false)
  refine W.thn (by simp only [go_sem]; exact ⟨rfl, rfl⟩) ?_
  -- 1: t5 := load(3, t3); t6 := call(value(F103<wish.within>)[t5, 1, 1024]); t7 := move(t6); t8 := move(t0) Gsome((2, true)); t9 := call(builtin(len)[t8]) Gsome((2, true)); t10 := call(value(F103<wish.within>)[t9, 1, 16]) Gsome((2, true)); t11 := pick(t7, t10, false); t12 := move(t11); t13 := move(t0) Gsome((7, true)); t14 := makeFunc(func(105), [], [t3]) Gsome((7, true)); t15 := call(value(F104<slices.ContainsFunc[[]int,int]>)[t13, t14]) Gsome((7, true)); t16 := unOp(not, 4, t15) Gsome((7, true)); t17 := pick(t12, t16, false); t4 := assign(t17)
  refine W.thnK fun K hK => ?_
  simp only [go_sem]
  refine WP_pc (pc103 _ _ _) ent103 (by simp only [go_sem, aTarget] <;> rfl) rfl rfl ?_ -- call(value(F103<wish.within>)[t5, 1, 1024])
  simp only [go_sem]
  refine guardW_t (fun h1 => ?_) fun h1 => ?_
  ·
    simp only [go_sem, h1]
    refine WP_pc (pc103 _ _ _) ent103 (by simp only [go_sem, aTarget] <;> rfl) rfl rfl ?_ -- call(value(F103<wish.within>)[t9, 1, 16])
    simp only [go_sem, h1]
    refine guardW_t (fun h2 => ?_) fun h2 => ?_
    ·
      simp only [go_sem, h1, h2]
      refine WP_lend (pc104 xs hl 105 [.cptr [.int .i64 n]] (fun x => !within x (-1) (n - 1)) ent105 rfl (fun x _ => pc105 x n (by simp only [within, decide_eq_true_eq] at h1; omega))) ent104 (by simp only [go_sem, aTarget]; rfl) (by simp only [go_sem]) rfl ?_ -- call(value(F104<slices.ContainsFunc[[]int,int]>)[t13, t14])
      simp only [go_sem, h1, h2]
      refine hK _ _ ?_
      refine W.ret ⟨.inr rfl, _, res1 Tryz.results61, ?_⟩
      simp only [go_sem, h1, h2]
      exact Weak.of_eq (congrArg AV.bool (by simp only [wishOk, h1, h2, Bool.true_and, Bool.false_and, Bool.and_false, List.all_eq_not_any_not]))
    ·
      simp only [go_sem, h1, h2]
      refine hK _ _ ?_
      refine W.ret ⟨.inr rfl, _, res1 Tryz.results61, ?_⟩
      simp only [go_sem, h1, h2]
      exact Weak.of_eq (congrArg AV.bool (by simp only [wishOk, h1, h2, Bool.true_and, Bool.false_and, Bool.and_false, List.all_eq_not_any_not]))
  ·
    simp only [go_sem, h1]
    refine hK _ _ ?_
    refine W.ret ⟨.inr rfl, _, res1 Tryz.results61, ?_⟩
    simp only [go_sem, h1]
    exact Weak.of_eq (congrArg AV.bool (by simp only [wishOk, h1, Bool.true_and, Bool.false_and, Bool.and_false, List.all_eq_not_any_not]))
end Go.Ab
end
section
set_option linter.unusedVariables false
set_option linter.unusedSimpArgs false
namespace Go.Ab
open Go.RowKit Go.Proofs

def has (m a : Int) : Bool := decide (0 ≤ a) && decide (a < m)
theorem has_iff {m a : Int} : has m a = true ↔ 0 ≤ a ∧ a < m := by simp [has]
theorem pcHas (m a : Int) : PureCall Tryz.prog 131 [.int .i64 m, .int .i64 a] (.bool (has m a)) := pc131 m a
theorem fieldOk_le {p : Int} (h : fieldOk p = true) : 2 ≤ p ∧ p ≤ 65521 := by
  simp only [fieldOk, Bool.and_eq_true, decide_eq_true_eq] at h
  exact h.1
attribute [go_sem] eq_self

theorem pcAdd (m a b : Int) (hm : 2 ≤ m ∧ m ≤ 65521) (ha : has m a = true) (hb : has m b = true) : PureCall Tryz.prog 130 [.int .i64 m, .int .i64 a, .int .i64 b] (.int .i64 ((a + b) % m)) := by
  rw [has_iff] at ha hb
  have := pc130 m a b (by omega)
  rw [w64 (by omega), Int.tmod_eq_emod_of_nonneg (by omega)] at this
  exact this
theorem pc129 (m a b : Int) (hm : m ≠ 0) : PureCall Tryz.prog 129 [.int .i64 m, .int .i64 a, .int .i64 b] (.int .i64 ((IntKind.i64.wrap (a * b)).tmod m)) := by
  refine pureCall Tryz.func129 rfl Tryz.ntmps129 rfl ?_
  simp only [go_sem]
  -- 0: t6 := assign(0)
  refine W.thn (by simp only [go_sem, hm]; exact ⟨rfl, rfl⟩) ?_
  -- 1: t7 := move(t1); t8 := move(t2); t9 := (mul, 3, t7, t8, 3); t10 := move(t0); t11 := (rem, 3, t9, t10, 3); t6 := assign(t11)
  refine W.thn (by simp only [go_sem, hm]; exact ⟨rfl, rfl⟩) ?_
  refine W.ret ⟨.inr rfl, _, res1 Tryz.results129, ?_⟩
  simp only [go_sem]
  exact Weak.refl _
theorem mul_range {m a b : Int} (hm : 2 ≤ m ∧ m ≤ 65521) (ha : 0 ≤ a ∧ a < m) (hb : 0 ≤ b ∧ b < m) : 0 ≤ a * b ∧ a * b ≤ 4293001441 := by
  refine ⟨Int.mul_nonneg ha.1 hb.1, ?_⟩
  have h1 : a * b ≤ 65521 * 65521 := Int.mul_le_mul (by omega) (by omega) hb.1 (by omega)
  omega
theorem pcMul (m a b : Int) (hm : 2 ≤ m ∧ m ≤ 65521) (ha : has m a = true) (hb : has m b = true) : PureCall Tryz.prog 129 [.int .i64 m, .int .i64 a, .int .i64 b] (.int .i64 (a * b % m)) := by
  rw [has_iff] at ha hb
  have h := mul_range hm ha hb
  have := pc129 m a b (by omega)
  rw [w64 (by omega), Int.tmod_eq_emod_of_nonneg h.1] at this
  exact this
theorem pc136 (m a b : Int) (hm : m ≠ 0) : PureCall Tryz.prog 136 [.int .i64 m, .int .i64 a, .int .i64 b] (.int .i64 ((IntKind.i64.wrap (IntKind.i64.wrap (a - b) + m)).tmod m)) := by
  refine pureCall Tryz.func136 rfl Tryz.ntmps136 rfl ?_
  simp only [go_sem]
  -- 0: t6 := assign(0)
  refine W.thn (by simp only [go_sem, hm]; exact ⟨rfl, rfl⟩) ?_
  -- 1: t7 := move(t1); t8 := move(t2); t9 := (sub, 3, t7, t8, 3); t10 := move(t0); t11 := (add, 3, t9, t10, 3); t12 := move(t0); t13 := (rem, 3, t11, t12, 3); t6 := assign(t13)
  refine W.thn (by simp only [go_sem, hm]; exact ⟨rfl, rfl⟩) ?_
  refine W.ret ⟨.inr rfl, _, res1 Tryz.results136, ?_⟩
  simp only [go_sem]
  exact Weak.refl _
theorem pcSub (m a b : Int) (hm : 2 ≤ m ∧ m ≤ 65521) (ha : has m a = true) (hb : has m b = true) : PureCall Tryz.prog 136 [.int .i64 m, .int .i64 a, .int .i64 b] (.int .i64 ((a - b) % m)) := by
  rw [has_iff] at ha hb
  have := pc136 m a b (by omega)
  rw [w64 (show -9223372036854775808 ≤ a - b ∧ a - b ≤ 9223372036854775807 by omega), w64 (by omega), Int.tmod_eq_emod_of_nonneg (by omega), Int.add_emod_right] at this
  exact this

def both (p a b : Int) : Bool := fieldOk p && has p a && has p b
theorem pc82 (p a b : Int) : PureCall Tryz.prog 82 [.agg [.int .i64 p], .int .i64 a, .int .i64 b] (.tuple [.int .i64 (if both p a b then (a - b) % p else 0), .int .i64 (errOf (both p a b) 9)]) := by
  refine pureCall Tryz.func82 rfl Tryz.ntmps82 rfl ?_
  simp only [go_sem]
  -- 0: t3 := box(30, t0); t6 := assign(0); t7 := assign(0)
  refine W.thn (by simp only [go_sem]; exact ⟨rfl, rfl⟩) ?_
  -- 1: t11 := load(30, t3); t12 := call(value(F126<residue.Of>)[t11]); t10 := move(t12); t13 := extract(t10, 0); t14 := extract(t10, 1); t8 := assign(t13); t9 := assign(t14)
  refine W.thn (by
    simp only [go_sem]
    refine WP_pc (pc126 _) ent126 (by simp only [go_sem, aTarget] <;> rfl) rfl rfl ?_ -- call(value(F126<residue.Of>)[t11])
    simp only [go_sem]
    exact ⟨rfl, rfl⟩) ?_
  refine W.seq ?_
  -- 2: t15 := move(t9); t16 := unOp(not, 4, t15); t17 := move(t16); t18 := move(t8) Gsome((2, false)); t19 := move(t1) Gsome((2, false)); t20 := call(value(F131<residue.Field).Has>)[t18, t19]) Gsome((2, false)); t21 := unOp(not, 4, t20) Gsome((2, false)); t22 := pick(t17, true, t21); t23 := move(t22); t24 := move(t8) Gsome((8, false)); t25 := move(t2) Gsome((8, false)); t26 := call(value(F131<residue.Field).Has>)[t24, t25]) Gsome((8, false)); t27 := unOp(not, 4, t26) Gsome((8, false)); t28 := pick(t23, true, t27)
  refine W.thnK fun K hK => ?_
  simp only [go_sem]
  refine guardW_nf (fun h1 => ?_) fun h1 => ?_
  ·
    simp only [go_sem, h1]
    refine WP_pc (pcHas _ _) ent131 (by simp only [go_sem, aTarget]; rfl) rfl rfl ?_ -- call(value(F131<residue.Field).Has>)[t18, t19])
    simp only [go_sem, h1]
    refine guardW_nf (fun h2 => ?_) fun h2 => ?_
    ·
      simp only [go_sem, h1, h2]
      refine WP_pc (pcHas _ _) ent131 (by simp only [go_sem, aTarget]; rfl) rfl rfl ?_ -- call(value(F131<residue.Field).Has>)[t24, t25])
      simp only [go_sem, h1, h2]
      refine hK _ _ ?_
      refine W.ifNB rfl (fun h3 => ?_) fun h3 => ?_ -- t28
      ·
        -- 3: t6 := assign(0); t7 := assign(9)
        refine W.thn (by simp only [go_sem, h1, h2, h3]; exact ⟨rfl, rfl⟩) ?_
        refine W.ret ⟨.inr rfl, _, res2 Tryz.results82, ?_⟩
        simp only [go_sem, h1, h2, h3]
        exact Weak.of_eq (by simp [both, errOf, h1, h2, h3])
      ·
        refine W.skip ?_
        -- 4: t29 := move(t8); t30 := move(t1); t31 := move(t2); t32 := call(value(F136<residue.Field).Sub>)[t29, t30, t31]); t6 := assign(t32); t7 := assign(0)
        refine W.thn (by
          simp only [go_sem, h1, h2, h3]
          refine WP_pc (pcSub p a b (fieldOk_le h1) h2 h3) ent136 (by simp only [go_sem, aTarget]) rfl rfl ?_ -- call(value(F136<residue.Field).Sub>)[t29, t30, t31])
          simp only [go_sem, h1, h2, h3]
          exact ⟨rfl, rfl⟩) ?_
        refine W.ret ⟨.inr rfl, _, res2 Tryz.results82, ?_⟩
        simp only [go_sem, h1, h2, h3]
        exact Weak.of_eq (by simp [both, errOf, h1, h2, h3])
    ·
      simp only [go_sem, h1, h2]
      refine hK _ _ ?_
      refine W.condT rfl ?_
      -- 3: t6 := assign(0); t7 := assign(9)
      refine W.thn (by simp only [go_sem, h1, h2]; exact ⟨rfl, rfl⟩) ?_
      refine W.ret ⟨.inr rfl, _, res2 Tryz.results82, ?_⟩
      simp only [go_sem, h1, h2]
      exact Weak.of_eq (by simp [both, errOf, h1, h2])
  ·
    simp only [go_sem, h1]
    refine hK _ _ ?_
    refine W.condT rfl ?_
    -- 3: t6 := assign(0); t7 := assign(9)
    refine W.thn (by simp only [go_sem, h1]; exact ⟨rfl, rfl⟩) ?_
    refine W.ret ⟨.inr rfl, _, res2 Tryz.results82, ?_⟩
    simp only [go_sem, h1]
    exact Weak.of_eq (by simp [both, errOf, h1])
theorem pc75 (p a b : Int) : PureCall Tryz.prog 75 [.agg [.int .i64 p], .int .i64 a, .int .i64 b] (.tuple [.int .i64 (if both p a b then (a + b) % p else 0), .int .i64 (errOf (both p a b) 9)]) := by
  refine pureCall Tryz.func75 rfl Tryz.ntmps75 rfl ?_
  simp only [go_sem]
  -- 0: t3 := box(30, t0); t6 := assign(0); t7 := assign(0)
  refine W.thn (by simp only [go_sem]; exact ⟨rfl, rfl⟩) ?_
  -- 1: t11 := load(30, t3); t12 := call(value(F126<residue.Of>)[t11]); t10 := move(t12); t13 := extract(t10, 0); t14 := extract(t10, 1); t8 := assign(t13); t9 := assign(t14)
  refine W.thn (by
    simp only [go_sem]
    refine WP_pc (pc126 _) ent126 (by simp only [go_sem, aTarget] <;> rfl) rfl rfl ?_ -- call(value(F126<residue.Of>)[t11])
    simp only [go_sem]
    exact ⟨rfl, rfl⟩) ?_
  refine W.seq ?_
  -- 2: t15 := move(t9); t16 := unOp(not, 4, t15); t17 := move(t16); t18 := move(t8) Gsome((2, false)); t19 := move(t1) Gsome((2, false)); t20 := call(value(F131<residue.Field).Has>)[t18, t19]) Gsome((2, false)); t21 := unOp(not, 4, t20) Gsome((2, false)); t22 := pick(t17, true, t21); t23 := move(t22); t24 := move(t8) Gsome((8, false)); t25 := move(t2) Gsome((8, false)); t26 := call(value(F131<residue.Field).Has>)[t24, t25]) Gsome((8, false)); t27 := unOp(not, 4, t26) Gsome((8, false)); t28 := pick(t23, true, t27)
  refine W.thnK fun K hK => ?_
  simp only [go_sem]
  refine guardW_nf (fun h1 => ?_) fun h1 => ?_
  ·
    simp only [go_sem, h1]
    refine WP_pc (pcHas _ _) ent131 (by simp only [go_sem, aTarget]; rfl) rfl rfl ?_ -- call(value(F131<residue.Field).Has>)[t18, t19])
    simp only [go_sem, h1]
    refine guardW_nf (fun h2 => ?_) fun h2 => ?_
    ·
      simp only [go_sem, h1, h2]
      refine WP_pc (pcHas _ _) ent131 (by simp only [go_sem, aTarget]; rfl) rfl rfl ?_ -- call(value(F131<residue.Field).Has>)[t24, t25])
      simp only [go_sem, h1, h2]
      refine hK _ _ ?_
      refine W.ifNB rfl (fun h3 => ?_) fun h3 => ?_ -- t28
      ·
        -- 3: t6 := assign(0); t7 := assign(9)
        refine W.thn (by simp only [go_sem, h1, h2, h3]; exact ⟨rfl, rfl⟩) ?_
        refine W.ret ⟨.inr rfl, _, res2 Tryz.results75, ?_⟩
        simp only [go_sem, h1, h2, h3]
        exact Weak.of_eq (by simp [both, errOf, h1, h2, h3])
      ·
        refine W.skip ?_
        -- 4: t29 := move(t8); t30 := move(t1); t31 := move(t2); t32 := call(value(F130<residue.Field).Add>)[t29, t30, t31]); t6 := assign(t32); t7 := assign(0)
        refine W.thn (by
          simp only [go_sem, h1, h2, h3]
          refine WP_pc (pcAdd p a b (fieldOk_le h1) h2 h3) ent130 (by simp only [go_sem, aTarget]) rfl rfl ?_ -- call(value(F130<residue.Field).Add>)[t29, t30, t31])
          simp only [go_sem, h1, h2, h3]
          exact ⟨rfl, rfl⟩) ?_
        refine W.ret ⟨.inr rfl, _, res2 Tryz.results75, ?_⟩
        simp only [go_sem, h1, h2, h3]
        exact Weak.of_eq (by simp [both, errOf, h1, h2, h3])
    ·
      simp only [go_sem, h1, h2]
      refine hK _ _ ?_
      refine W.condT rfl ?_
      -- 3: t6 := assign(0); t7 := assign(9)
      refine W.thn (by simp only [go_sem, h1, h2]; exact ⟨rfl, rfl⟩) ?_
      refine W.ret ⟨.inr rfl, _, res2 Tryz.results75, ?_⟩
      simp only [go_sem, h1, h2]
      exact Weak.of_eq (by simp [both, errOf, h1, h2])
  ·
    simp only [go_sem, h1]
    refine hK _ _ ?_
    refine W.condT rfl ?_
    -- 3: t6 := assign(0); t7 := assign(9)
    refine W.thn (by simp only [go_sem, h1]; exact ⟨rfl, rfl⟩) ?_
    refine W.ret ⟨.inr rfl, _, res2 Tryz.results75, ?_⟩
    simp only [go_sem, h1]
    exact Weak.of_eq (by simp [both, errOf, h1])
theorem pc156 (m x : Int) : PureCall Tryz.prog 156 [.int .i64 x, .cptr [.int .i64 m]] (.bool (!has m x)) := by
  refine pureCall Tryz.func156 rfl Tryz.ntmps156 rfl ?_
  simp only [go_sem]
  -- 0: t3 := assign(false)
  refine W.thn (by simp only [go_sem]; exact ⟨rfl, rfl⟩) ?_
  -- 1: t4 := load(155, t1); t5 := move(t0); t6 := call(value(F131<residue.Field).Has>)[t4, t5]); t7 := unOp(not, 4, t6); t3 := assign(t7)
  refine W.thn (by
    simp only [go_sem]
    refine WP_pc (pcHas m x) ent131 (by simp only [go_sem, aTarget]) rfl rfl ?_ -- call(value(F131<residue.Field).Has>)[t4, t5])
    simp only [go_sem]
    exact ⟨rfl, rfl⟩) ?_
  refine W.ret ⟨.inr rfl, _, res1 Tryz.results156, ?_⟩
  simp only [go_sem]
  exact Weak.refl _
theorem pc127 (m : Int) (xs : List Int) (hl : xs.length < 4611686018427387904) : PureCall Tryz.prog 127 [.int .i64 m, ints xs] (.bool (xs.all (has m))) := by
  refine pureCall Tryz.func127 rfl Tryz.ntmps127 rfl ?_
  simp only [go_sem]
  -- 0: t2 := box(155, t0); t4 := assign(false)
  refine W.thn (by simp only [go_sem]; exact ⟨rfl, rfl⟩) ?_
  -- 1: t5 := move(t1); t6 := makeFunc(func(156), [], [t2]); t7 := call(value(F104<slices.ContainsFunc[[]int,int]>)[t5, t6]); t8 := unOp(not, 4, t7); t4 := assign(t8)
  refine W.thn (by
    simp only [go_sem]
    refine WP_lend (pc104 xs hl 156 [.cptr [.int .i64 m]] (fun x => !has m x) ent156 rfl (fun x _ => pc156 m x)) ent104 (by simp only [go_sem, aTarget]; rfl) (by simp only [go_sem]) rfl ?_ -- call(value(F104<slices.ContainsFunc[[]int,int]>)[t5, t6])
    simp only [go_sem]
    exact ⟨rfl, rfl⟩) ?_
  refine W.ret ⟨.inr rfl, _, res1 Tryz.results127, ?_⟩
  simp only [go_sem]
  exact Weak.of_eq (congrArg AV.bool (by rw [List.all_eq_not_any_not]))
theorem pc73 (p : Int) (xs : List Int) (hl : xs.length < 4611686018427387904) : PureCall Tryz.prog 73 [.agg [.int .i64 p], ints xs] (.bool (fieldOk p && xs.all (has p))) := by
  refine pureCall Tryz.func73 rfl Tryz.ntmps73 rfl ?_
  simp only [go_sem]
  -- 0: t2 := box(30, t0); t4 := assign(false)
  refine W.thn (by simp only [go_sem]; exact ⟨rfl, rfl⟩) ?_
  -- 1: t8 := load(30, t2); t9 := call(value(F126<residue.Of>)[t8]); t7 := move(t9); t10 := extract(t7, 0); t11 := extract(t7, 1); t5 := assign(t10); t6 := assign(t11)
  refine W.thn (by
    simp only [go_sem]
    refine WP_pc (pc126 _) ent126 (by simp only [go_sem, aTarget] <;> rfl) rfl rfl ?_ -- call(value(F126<residue.Of>)[t8])
    simp only [go_sem]
    exact ⟨rfl, rfl⟩) ?_
  -- 2: t12 := move(t6); t13 := move(t12); t14 := move(t5) Gsome((1, true)); t15 := move(t1) Gsome((1, true)); t16 := call(value(F127<residue.Field).All>)[t14, t15]) Gsome((1, true)); t17 := pick(t13, t16, false); t4 := assign(t17)
  refine W.thnK fun K hK => ?_
  simp only [go_sem]
  refine guardW_t (fun h1 => ?_) fun h1 => ?_
  ·
    simp only [go_sem, h1]
    refine WP_pc (pc127 p xs hl) ent127 (by simp only [go_sem, aTarget]) rfl rfl ?_ -- call(value(F127<residue.Field).All>)[t14, t15])
    simp only [go_sem, h1]
    refine hK _ _ ?_
    refine W.ret ⟨.inr rfl, _, res1 Tryz.results73, ?_⟩
    simp only [go_sem, h1]
    exact Weak.of_eq (congrArg AV.bool (by simp only [h1, Bool.true_and, Bool.false_and]))
  ·
    simp only [go_sem, h1]
    refine hK _ _ ?_
    refine W.ret ⟨.inr rfl, _, res1 Tryz.results73, ?_⟩
    simp only [go_sem, h1]
    exact Weak.of_eq (congrArg AV.bool (by simp only [h1, Bool.true_and, Bool.false_and]))
end Go.Ab
end
section
set_option linter.unusedVariables false
set_option linter.unusedSimpArgs false
namespace Go.Ab
open Go.RowKit Go.Proofs

@[go_sem] theorem all_one_int (k : IntKind) (xs : List Int) : (xs.map (AV.int k)).all AV.one = true := by simp [AV.one]
theorem take_map_len {α β : Type} (f : α → β) (xs : List α) : (xs.map f).take xs.length = xs.map f := List.take_of_length_le (by simp)

theorem pc109 (xs : List Int) (hl : xs.length ≤ 1000000) : PureCall Tryz.prog 109 [ints xs] (ints xs) := by
  refine PureCall.nn [] [] ?_ fun hx => ?_
  · refine pureCall Tryz.func109 rfl Tryz.ntmps109 rfl ?_
    simp only [go_sem]
    refine W.thn (by simp only [go_sem]; exact ⟨rfl, rfl⟩) ?_
    refine W.seq ?_
    refine W.thn (by simp only [go_sem]; exact ⟨rfl, rfl⟩) ?_
    refine W.condF rfl ?_
    refine W.skip ?_
    by_cases h0 : xs.length = 0
    · refine W.thn (by simp only [go_sem, h0]; exact ⟨rfl, rfl⟩) ?_
      refine W.ret ⟨.inr rfl, _, res1 Tryz.results109, ?_⟩
      simp only [go_sem]
      have : xs = [] := List.eq_nil_of_length_eq_zero h0
      subst this
      exact Weak.vals _ _ _
    · have hb : xs.length * 8 ≤ 140737488355328 := by omega
      have hn : ¬ xs.length ≤ 0 := by omega
      refine W.thn (by simp only [go_sem, h0, hb, hn]; exact ⟨rfl, rfl⟩) ?_
      refine W.ret ⟨.inr rfl, _, res1 Tryz.results109, ?_⟩
      simp only [go_sem, h0]
      rw [take_map_len, pv_map_int (k := 6)]
      exact Weak.vals _ _ _
  · obtain rfl : xs = [] := by simpa using hx
    refine pureCall Tryz.func109 rfl Tryz.ntmps109 rfl ?_
    simp only [go_sem]
    refine W.thn (by simp only [go_sem]; exact ⟨rfl, rfl⟩) ?_
    refine W.seq ?_
    refine W.thn (by simp only [go_sem]; exact ⟨rfl, rfl⟩) ?_
    refine W.condT rfl ?_
    refine W.thn (by simp only [go_sem]; exact ⟨rfl, rfl⟩) ?_
    refine W.ret ⟨.inr rfl, _, res1 Tryz.results109, ?_⟩
    simp only [go_sem]
    exact Weak.nilSlice 1
/-! ### ascending -/
def ascFrom : Int → List Int → Bool
  | _, [] => true
  | last, x :: xs => decide (last < x) && ascFrom x xs
theorem pc107 (xs : List Int) (hl : xs.length < 4611686018427387904) : PureCall Tryz.prog 107 [ints xs] (.bool (ascFrom 0 xs)) := by
  refine pureCall Tryz.func107 rfl Tryz.ntmps107 rfl ?_
  simp only [go_sem]
  -- 0: t2 := assign(false)
  refine W.thn (by simp only [go_sem]; exact ⟨rfl, rfl⟩) ?_
  -- 1: t3 := assign(0)
  refine W.thn (by simp only [go_sem]; exact ⟨rfl, rfl⟩) ?_
  refine W.seq ?_
  -- 2: t6 := move(t0); t7 := call(builtin(len)[t6]); t8 := move(0)
  refine W.thn (by simp only [go_sem]; exact ⟨rfl, rfl⟩) ?_
  refine W.block ?_
  refine W.loopE [3, 6, 7, 8] (fun m l H => ∃ (j : Nat) (last : Int), j ≤ xs.length ∧ m = xs.length - j ∧ ascFrom 0 xs = ascFrom last (xs.drop j) ∧ l = [(3, .int .i64 last), (6, ints xs), (7, .int .i64 xs.length), (8, .int .i64 j)] ∧ H = []) ⟨xs.length, 0, 0, by omega, by omega, by simp, by simp only [go_sem]; rfl, rfl⟩ fun m l H ⟨j, last, hj, hm, hasc, e1, e2⟩ => ?_
  subst e1; subst e2
  -- 3: t9 := (lss, 3, t8, t7, 3)
  refine W.thn (by simp only [go_sem]; exact ⟨rfl, rfl⟩) ?_
  refine W.seq ?_
  refine W.ifB rfl (fun h1 => ?_) fun h1 => ?_ -- t9
  ·
    simp only [decide_eq_true_eq] at h1
    have hjl : j < xs.length := by omega
    have hx0 : xs[j]? = some xs[j] := List.getElem?_eq_getElem hjl
    rw [List.drop_eq_getElem_cons hjl] at hasc
    simp only [ascFrom] at hasc
    generalize xs[j] = x at hx0 hasc
    refine W.skip ?_
    refine W.seq ?_
    refine W.block ?_
    -- 4: t10 := indexAddr(33, t6, t8); t11 := load(3, t10); t5 := assign(t11)
    refine W.thn (by simp only [go_sem, hjl, at0 hx0]; exact ⟨rfl, rfl⟩) ?_
    refine W.seq ?_
    -- 5: t12 := move(t5); t13 := move(t3); t14 := (leq, 3, t12, t13, 3)
    refine W.thn (by simp only [go_sem, hjl, at0 hx0]; exact ⟨rfl, rfl⟩) ?_
    refine W.ifB rfl (fun h2 => ?_) fun h2 => ?_ -- t14
    ·
      -- 6: t2 := assign(false)
      refine W.thn (by simp only [go_sem, wrapS (show j < 4611686018427387904 by omega)]; exact ⟨rfl, rfl⟩) ?_
      refine W.ret ⟨.inr rfl, _, res1 Tryz.results107, ?_⟩
      simp only [go_sem, wrapS (show j < 4611686018427387904 by omega)]
      simp only [decide_eq_true_eq] at h2
      exact Weak.of_eq (congrArg AV.bool (by rw [hasc, decide_eq_false (show ¬ last < x by omega)]; rfl))
    ·
      refine W.skip ?_
      -- 7: t15 := move(t5); t3 := assign(t15)
      refine W.lst (by simp only [go_sem, wrapS (show j < 4611686018427387904 by omega)]; exact ⟨rfl, rfl⟩) ?_
      -- 8: t16 := (add, 3, t8, 1, 3); t8 := move(t16)
      refine W.lst (by simp only [go_sem, wrapS (show j < 4611686018427387904 by omega)]; exact ⟨rfl, rfl⟩) ?_
      refine ⟨_, xs.length - (j + 1), rfl, by omega, j + 1, x, by omega, by omega, ?_, by simp only [go_sem], rfl⟩
      simp only [decide_eq_false_iff_not] at h2
      rw [hasc, decide_eq_true (show last < x by omega)]; rfl
  ·
    refine W.exit ?_ -- to 0
    -- 9: t2 := assign(true)
    refine W.thn (by simp only [go_sem]; exact ⟨rfl, rfl⟩) ?_
    refine W.ret ⟨.inr rfl, _, res1 Tryz.results107, ?_⟩
    simp only [go_sem]
    simp only [decide_eq_false_iff_not] at h1
    exact Weak.of_eq (congrArg AV.bool (by rw [hasc, List.drop_eq_nil_of_le (by omega)]; rfl))
end Go.Ab
end
section
set_option linter.unusedVariables false
set_option linter.unusedSimpArgs false
namespace Go.Ab
open Go.RowKit Go.Proofs

theorem pureBs_append : ∀ {xs ys : List AV}, pureBs xs = true → pureBs ys = true → pureBs (xs ++ ys) = true
  | [], _, _, h => h
  | _ :: xs, ys, h, k => by
    simp only [pureBs, Bool.and_eq_true, List.cons_append] at h ⊢
    exact ⟨h.1, pureBs_append h.2 k⟩
theorem pure_app {fst cap : List AV} (h1 : pureBs fst = true) (h2 : pureBs cap = true) (x y : Int) : pureBs (fst ++ .int .i64 x :: .int .i64 y :: cap) = true := pureBs_append h1 (by simp only [pureBs, AV.pureB, h2]; rfl)

theorem pc128 (a b : List Int) (hab : a.length = b.length) (hl : a.length ≤ 1000000) (g : FuncId) (fst cap : List AV) (op : Int → Int → Int) (hg : enters Tryz.prog g = true) (hf1 : pureBs fst = true) (hf2 : pureBs cap = true) (hp : ∀ x y, x ∈ a → y ∈ b → PureCall Tryz.prog g (fst ++ .int .i64 x :: .int .i64 y :: cap) (.int .i64 (op x y))) :
    PureCall Tryz.prog 128 [ints a, ints b, .func g fst cap] (ints (List.zipWith op a b)) := by
  refine pureCall Tryz.func128 rfl Tryz.ntmps128 rfl ?_
  simp only [go_sem]
  -- 0: t6 := assign(slice(none, 0, 0))
  refine W.thn (by simp only [go_sem]; exact ⟨rfl, rfl⟩) ?_
  -- 1: t7 := assign(slice(none, 0, 0))
  refine W.thn (by simp only [go_sem]; exact ⟨rfl, rfl⟩) ?_
  refine W.seq ?_
  -- 2: t10 := move(t0); t11 := call(builtin(len)[t10]); t12 := move(0)
  refine W.thn (by simp only [go_sem]; exact ⟨rfl, rfl⟩) ?_
  refine W.block ?_
  refine W.le (Le.slice0 (d := 7) 1 (by simp only [go_sem])) ?_
  refine W.loopEL [1, 2, 7, 10, 11, 12] 1 (Nat.zero_le _) (fun m l H => ∃ j : Nat, j ≤ a.length ∧ m = a.length - j ∧ l = [(1, ints b), (2, .func g fst cap), (7, .slice 1 0 0 j j none), (10, ints a), (11, .int .i64 a.length), (12, .int .i64 j)] ∧ H = [.blk (((List.zipWith op a b).take j).map (AV.int .i64)) 0 false]) ⟨a.length, 0, by omega, by omega, by simp only [go_sem]; rfl, by simp⟩ fun m l H ⟨j, hj, hm, e1, e2⟩ => ?_
  subst e1; subst e2
  -- 3: t13 := (lss, 3, t12, t11, 3)
  refine W.thn (by simp only [go_sem]; exact ⟨rfl, rfl⟩) ?_
  refine W.seq ?_
  refine W.ifB rfl (fun h1 => ?_) fun h1 => ?_ -- t13
  ·
    simp only [decide_eq_true_eq] at h1
    have hjl : j < a.length := by omega
    have hjb : j < b.length := by omega
    have hx0 : a[j]? = some a[j] := List.getElem?_eq_getElem hjl
    have hy0 : b[j]? = some b[j] := List.getElem?_eq_getElem hjb
    have hx : a[j] ∈ a := List.getElem_mem _
    have hy : b[j] ∈ b := List.getElem_mem _
    have hz : (List.zipWith op a b).take (j + 1) = (List.zipWith op a b).take j ++ [op a[j] b[j]] := by
      rw [List.take_add_one, List.getElem?_zipWith, hx0, hy0]; rfl
    generalize a[j] = x at hx0 hx hz
    generalize b[j] = y at hy0 hy hz
    have hlen : (List.zipWith op a b).length = a.length := by rw [List.length_zipWith, ← hab, Nat.min_self]
    have hmin : min j a.length = j := by omega
    have hb8 : (j + 1) * 8 ≤ 140737488355328 := by omega
    refine W.skip ?_
    refine W.seq ?_
    refine W.block ?_
    -- 4: t14 := move(t12); t15 := indexAddr(33, t10, t12); t16 := load(3, t15); t8 := assign(t14); t9 := assign(t16)
    refine W.thn (by simp only [go_sem, hjl, hjb, at0 hx0, at0 hy0, wrapS (show j < 4611686018427387904 by omega), List.length_take, hlen, hmin, hb8, Nat.succ_ne_zero]; exact ⟨rfl, rfl⟩) ?_
    -- 5: t17 := move(t7); t18 := move(t2); t19 := move(t9); t20 := move(t1); t21 := move(t8); t22 := indexAddr(33, t20, t21); t23 := load(3, t22); t24 := call(value(t18)[t19, t23]); t25 := buildSlice(33, 1, [(0, t24)]); t26 := call(builtin(append)[t17, t25]); t7 := assign(t26)
    refine W.lst (by
      simp only [go_sem, hjl, hjb, at0 hx0, at0 hy0, wrapS (show j < 4611686018427387904 by omega), List.length_take, hlen, hmin, hb8, Nat.succ_ne_zero]
      refine WP_pc (hp x y hx hy) hg (by simp only [go_sem, aTarget, List.append_assoc, List.cons_append, List.nil_append]) (pure_app hf1 hf2 x y) rfl ?_ -- call(value(t18)[t19, t23])
      simp only [go_sem, hjl, hjb, at0 hx0, at0 hy0, wrapS (show j < 4611686018427387904 by omega), List.length_take, hlen, hmin, hb8, Nat.succ_ne_zero]
      exact ⟨rfl, rfl⟩) ?_
    -- 6: t27 := (add, 3, t12, 1, 3); t12 := move(t27)
    refine W.lst (by simp only [go_sem, hjl, hjb, at0 hx0, at0 hy0, wrapS (show j < 4611686018427387904 by omega), List.length_take, hlen, hmin, hb8, Nat.succ_ne_zero]; exact ⟨rfl, rfl⟩) ?_
    refine ⟨_, a.length - (j + 1), rfl, by omega, by simp, j + 1, by omega, by omega, by simp only [go_sem, hf1, hf2], by simp [hz, cv_map_int]⟩
  ·
    refine W.exit ?_ -- to 0
    -- 7: t28 := move(t7); t6 := assign(t28)
    refine W.thn (by simp only [go_sem]; exact ⟨rfl, rfl⟩) ?_
    refine W.ret ⟨.inr rfl, _, res1 Tryz.results128, ?_⟩
    simp only [go_sem]
    simp only [decide_eq_false_iff_not] at h1
    have hj' : j = a.length := by omega
    have hlen : (List.zipWith op a b).length = a.length := by rw [List.length_zipWith, ← hab, Nat.min_self]
    have ht : (List.zipWith op a b).take j = List.zipWith op a b := List.take_of_length_le (by omega)
    rw [ht]
    split
    · have : List.zipWith op a b = [] := List.eq_nil_of_length_eq_zero (by omega)
      rw [this]
      exact Weak.vals _ _ _
    · rw [List.take_of_length_le (by simp; omega), pv_map_int (k := 6)]
      exact Weak.vals _ _ _
end Go.Ab
end
section
set_option linter.unusedVariables false
set_option linter.unusedSimpArgs false
namespace Go.Ab
open Go.RowKit Go.Proofs

def sumMod (p : Int) (xs : List Int) : Int := xs.foldl (fun s x => (s + x) % p) 0
def mulMod (p : Int) (a b : List Int) : List Int := List.zipWith (fun x y => x * y % p) a b
def dotErr (p : Int) (a b : List Int) : Int := if fieldOk p && a.all (has p) && b.all (has p) then (if a.length = b.length then 0 else 2) else 9
def dotOf (p : Int) (a b : List Int) : Int := if dotErr p a b = 0 then sumMod p (mulMod p a b) else 0
theorem has_mod {p x : Int} (hp : 2 ≤ p) : has p (x % p) = true := has_iff.2 ⟨Int.emod_nonneg _ (by omega), Int.emod_lt_of_pos _ (by omega)⟩
theorem sumMod_next {p : Int} {xs : List Int} {j : Nat} {x : Int} (h : xs[j]? = some x) : sumMod p (xs.take (j + 1)) = (sumMod p (xs.take j) + x) % p := by
  unfold sumMod
  rw [List.take_add_one, h, List.foldl_append]; rfl
theorem mulMod_has {p : Int} (hp : 2 ≤ p) {a b : List Int} {x : Int} (h : x ∈ mulMod p a b) : has p x = true := by
  unfold mulMod at h
  obtain ⟨i, hi, e⟩ := List.mem_iff_getElem.1 h
  rw [List.getElem_zipWith] at e
  rw [← e]; exact has_mod hp
theorem pc74 (p : Int) (a b : List Int) (hla : a.length ≤ 1000000) (hlb : b.length ≤ 1000000) : PureCall Tryz.prog 74 [.agg [.int .i64 p], ints a, ints b] (.tuple [.int .i64 (dotOf p a b), .int .i64 (dotErr p a b)]) := by
  refine pureCall Tryz.func74 rfl Tryz.ntmps74 rfl ?_
  simp only [go_sem]
  -- 0: t3 := box(30, t0); t6 := assign(0); t7 := assign(0)
  refine W.thn (by simp only [go_sem]; exact ⟨rfl, rfl⟩) ?_
  -- 1: t14 := load(30, t3); t15 := call(value(F126<residue.Of>)[t14]); t13 := move(t15); t16 := extract(t13, 0); t17 := extract(t13, 1); t8 := assign(t16); t9 := assign(t17)
  refine W.thn (by
    simp only [go_sem]
    refine WP_pc (pc126 _) ent126 (by simp only [go_sem, aTarget] <;> rfl) rfl rfl ?_ -- call(value(F126<residue.Of>)[t14])
    simp only [go_sem]
    exact ⟨rfl, rfl⟩) ?_
  refine W.seq ?_
  -- 2: t18 := move(t9); t19 := unOp(not, 4, t18); t20 := move(t19); t21 := move(t8) Gsome((2, false)); t22 := move(t1) Gsome((2, false)); t23 := call(value(F127<residue.Field).All>)[t21, t22]) Gsome((2, false)); t24 := unOp(not, 4, t23) Gsome((2, false)); t25 := pick(t20, true, t24); t26 := move(t25); t27 := move(t8) Gsome((8, false)); t28 := move(t2) Gsome((8, false)); t29 := call(value(F127<residue.Field).All>)[t27, t28]) Gsome((8, false)); t30 := unOp(not, 4, t29) Gsome((8, false)); t31 := pick(t26, true, t30)
  refine W.thnK fun K hK => ?_
  simp only [go_sem]
  refine guardW_nf (fun h1 => ?_) fun h1 => ?_
  ·
    simp only [go_sem, h1]
    refine WP_pc (pc127 p a (by omega)) ent127 (by simp only [go_sem, aTarget]) rfl rfl ?_ -- call(value(F127<residue.Field).All>)[t21, t22])
    simp only [go_sem, h1]
    refine guardW_nf (fun h2 => ?_) fun h2 => ?_
    ·
      simp only [go_sem, h1, h2]
      refine WP_pc (pc127 p b (by omega)) ent127 (by simp only [go_sem, aTarget]) rfl rfl ?_ -- call(value(F127<residue.Field).All>)[t27, t28])
      simp only [go_sem, h1, h2]
      refine hK _ _ ?_
      refine W.ifNB rfl (fun h3 => ?_) fun h3 => ?_ -- t31
      ·
        -- 3: t6 := assign(0); t7 := assign(9)
        refine W.thn (by simp only [go_sem, h1, h2, h3]; exact ⟨rfl, rfl⟩) ?_
        refine W.ret ⟨.inr rfl, _, res2 Tryz.results74, ?_⟩
        simp only [go_sem, h1, h2, h3]
        exact Weak.of_eq (by simp [dotOf, dotErr, h1, h2, h3])
      ·
        refine W.skip ?_
        refine W.seq ?_
        -- 4: t32 := move(t1); t33 := call(builtin(len)[t32]); t34 := move(t2); t35 := call(builtin(len)[t34]); t36 := (neq, 3, t33, t35, 3)
        refine W.thn (by simp only [go_sem, h1, h2, h3]; exact ⟨rfl, rfl⟩) ?_
        refine W.ifNB rfl (fun h4 => ?_) fun h4 => ?_ -- t36
        ·
          -- 5: t6 := assign(0); t7 := assign(2)
          refine W.thn (by simp only [go_sem, h1, h2, h3, h4]; exact ⟨rfl, rfl⟩) ?_
          refine W.ret ⟨.inr rfl, _, res2 Tryz.results74, ?_⟩
          simp only [go_sem, h1, h2, h3, h4]
          simp only [decide_eq_false_iff_not] at h4
          have h4b : ¬ a.length = b.length := by omega
          exact Weak.of_eq (by simp [dotOf, dotErr, h1, h2, h3, h4b])
        ·
          refine W.skip ?_
          -- 6: t10 := assign(0)
          refine W.thn (by simp only [go_sem, h1, h2, h3, h4]; exact ⟨rfl, rfl⟩) ?_
          refine W.seq ?_
          -- 7: t37 := move(t1); t38 := move(t2); t39 := move(t8); t40 := makeFunc(func(129), [t39], []); t41 := call(value(F128<vector.join[int]>)[t37, t38, t40]); t42 := call(builtin(len)[t41]); t43 := move(0)
          refine W.thn (by
            simp only [go_sem, h1, h2, h3, h4]
            refine WP_pc (pc128 a b (by simp only [decide_eq_true_eq] at h4; omega) hla 129 [.int .i64 p] [] (fun x y => x * y % p) ent129 rfl rfl (fun x y hx hy => pcMul p x y (fieldOk_le h1) (List.all_eq_true.1 h2 x hx) (List.all_eq_true.1 h3 y hy))) ent128 (by simp only [go_sem, aTarget]) rfl rfl ?_ -- call(value(F128<vector.join[int]>)[t37, t38, t40])
            simp only [go_sem, h1, h2, h3, h4]
            exact ⟨rfl, rfl⟩) ?_
          refine W.block ?_
          have hz : (List.zipWith (fun x y => x * y % p) a b) = mulMod p a b := rfl
          simp only [hz]
          have hzl : (mulMod p a b).length ≤ 1000000 := by unfold mulMod; rw [List.length_zipWith]; omega
          generalize hzz : mulMod p a b = z at hz hzl
          refine W.loopE [8, 10, 41, 42, 43] (fun m l H => ∃ (j : Nat) (acc : Int), j ≤ z.length ∧ m = z.length - j ∧ acc = sumMod p (z.take j) ∧ has p acc = true ∧ l = [(8, .int .i64 p), (10, .int .i64 acc), (41, ints z), (42, .int .i64 z.length), (43, .int .i64 j)] ∧ H = [.blk [.int .i64 p] 1 false]) ⟨z.length, 0, 0, by omega, by omega, rfl, has_iff.2 ⟨by omega, by have := fieldOk_le h1; omega⟩, by simp only [go_sem]; rfl, rfl⟩ fun m l H ⟨j, acc, hj, hm, hsum, hacc, e1, e2⟩ => ?_
          subst e1; subst e2
          -- 8: t44 := (lss, 3, t43, t42, 3)
          refine W.thn (by simp only [go_sem]; exact ⟨rfl, rfl⟩) ?_
          refine W.seq ?_
          refine W.ifB rfl (fun h5 => ?_) fun h5 => ?_ -- t44
          ·
            simp only [decide_eq_true_eq] at h5
            have hjl : j < z.length := by omega
            have hx0 : z[j]? = some z[j] := List.getElem?_eq_getElem hjl
            have hxm : z[j] ∈ mulMod p a b := by rw [hzz]; exact List.getElem_mem _
            generalize z[j] = x at hx0 hxm
            refine W.skip ?_
            refine W.seq ?_
            refine W.block ?_
            -- 9: t45 := indexAddr(33, t41, t43); t46 := load(3, t45); t12 := assign(t46)
            refine W.thn (by simp only [go_sem, hjl, at0 hx0, wrapS (show j < 4611686018427387904 by omega)]; exact ⟨rfl, rfl⟩) ?_
            -- 10: t47 := move(t8); t48 := move(t10); t49 := move(t12); t50 := call(value(F130<residue.Field).Add>)[t47, t48, t49]); t10 := assign(t50)
            refine W.lst (by
              simp only [go_sem, hjl, at0 hx0, wrapS (show j < 4611686018427387904 by omega)]
              refine WP_pc (pcAdd p acc x (fieldOk_le h1) hacc (mulMod_has (fieldOk_le h1).1 hxm)) ent130 (by simp only [go_sem, aTarget]) rfl rfl ?_ -- call(value(F130<residue.Field).Add>)[t47, t48, t49])
              simp only [go_sem, hjl, at0 hx0, wrapS (show j < 4611686018427387904 by omega)]
              exact ⟨rfl, rfl⟩) ?_
            -- 11: t51 := (add, 3, t43, 1, 3); t43 := move(t51)
            refine W.lst (by simp only [go_sem, hjl, at0 hx0, wrapS (show j < 4611686018427387904 by omega)]; exact ⟨rfl, rfl⟩) ?_
            refine ⟨_, z.length - (j + 1), rfl, by omega, j + 1, (acc + x) % p, by omega, by omega, ?_, has_mod (fieldOk_le h1).1, by simp only [go_sem], rfl⟩
            rw [sumMod_next hx0, hsum]
          ·
            refine W.exit ?_ -- to 0
            -- 12: t52 := move(t10); t6 := assign(t52); t7 := assign(0)
            refine W.thn (by simp only [go_sem]; exact ⟨rfl, rfl⟩) ?_
            refine W.ret ⟨.inr rfl, _, res2 Tryz.results74, ?_⟩
            simp only [go_sem]
            simp only [decide_eq_false_iff_not] at h5
            have e4 : dotErr p a b = 0 := by simp only [decide_eq_true_eq] at h4; simp [dotErr, h1, h2, h3]; omega
            exact Weak.of_eq (by rw [dotOf, e4, if_pos rfl, hzz, hsum, List.take_of_length_le (by omega)])
    ·
      simp only [go_sem, h1, h2]
      refine hK _ _ ?_
      refine W.condT rfl ?_
      -- 3: t6 := assign(0); t7 := assign(9)
      refine W.thn (by simp only [go_sem, h1, h2]; exact ⟨rfl, rfl⟩) ?_
      refine W.ret ⟨.inr rfl, _, res2 Tryz.results74, ?_⟩
      simp only [go_sem, h1, h2]
      exact Weak.of_eq (by simp [dotOf, dotErr, h1, h2])
  ·
    simp only [go_sem, h1]
    refine hK _ _ ?_
    refine W.condT rfl ?_
    -- 3: t6 := assign(0); t7 := assign(9)
    refine W.thn (by simp only [go_sem, h1]; exact ⟨rfl, rfl⟩) ?_
    refine W.ret ⟨.inr rfl, _, res2 Tryz.results74, ?_⟩
    simp only [go_sem, h1]
    exact Weak.of_eq (by simp [dotOf, dotErr, h1])
end Go.Ab
end
section
set_option linter.unusedVariables false
set_option linter.unusedSimpArgs false
namespace Go.Ab
open Go.RowKit Go.Proofs

theorem resCell {P : Program} {fn : Func} {ts : List AV} {H : Heap} {a : Nat} {t : TypeId} {r : AV} (h : fn.results = #[.cell a t]) (hv : aLoad P t (look ts (.tmp a)) H = some r) : aResults P fn ts H = some r := by
  simp only [aResults, h, aResultL, aResult]
  have : aLoad P t (ts.getD a undefA) H = some r := hv
  rw [this]
def stoOf (x : Sch) : AV := .agg [.int .i64 x.s, .int .i64 x.d, .int .i64 x.g]
@[go_sem] theorem stoOf_eq (x : Sch) : stoOf x = .agg [.int .i64 x.s, .int .i64 x.d, .int .i64 x.g] := rfl
theorem pc113 (x : Sch) : PureCall Tryz.prog 113 [x.av] (stoOf x) := by
  refine pureCall Tryz.func113 rfl Tryz.ntmps113 rfl ?_
  simp only [go_sem]
  -- 0: t1 := box(27, t0); t2 := alloc(143)
  refine W.thn (by simp only [go_sem]; exact ⟨rfl, rfl⟩) ?_
  -- 1: t3 := fieldAddr(27, t1, 1); t4 := load(3, t3); t5 := fieldAddr(27, t1, 2); t6 := load(3, t5); t7 := fieldAddr(27, t1, 3); t8 := load(3, t7); t9 := build(143, [(0, t4), (1, t6), (2, t8)]); _ := store(143, t2, t9)
  refine W.thn (by simp only [go_sem]; exact ⟨rfl, rfl⟩) ?_
  refine W.ret ⟨.inr rfl, .agg [.int .i64 x.s, .int .i64 x.d, .int .i64 x.g], resCell Tryz.results113 (by simp only [go_sem]), ?_⟩
  simp only [go_sem]
  exact Weak.refl _
theorem pc114 (s d g rows : Int) (hg : 1 ≤ g ∧ g ≤ 1000) (hr : 0 ≤ rows ∧ rows ≤ 100000) : PureCall Tryz.prog 114 [.agg [.int .i64 s, .int .i64 d, .int .i64 g], .int .i64 rows] (.int .i64 ((rows + g - 1) / g)) := by
  refine pureCall Tryz.func114 rfl Tryz.ntmps114 rfl ?_
  have hg0 : ¬ g = 0 := by omega
  have e1 : IntKind.i64.wrap (rows + g) = rows + g := w64 (by omega)
  have e2 : IntKind.i64.wrap (rows + g - 1) = rows + g - 1 := w64 (by omega)
  have e4 : (rows + g - 1).tdiv g = (rows + g - 1) / g := Int.tdiv_eq_ediv_of_nonneg (by omega)
  have e5 : 0 ≤ (rows + g - 1) / g := Int.ediv_nonneg (by omega) (by omega)
  have e6 : (rows + g - 1) / g ≤ rows + g - 1 := Int.ediv_le_self _ (by omega)
  have e3 : IntKind.i64.wrap ((rows + g - 1) / g) = (rows + g - 1) / g := w64 (by omega)
  simp only [go_sem]
  -- 0: t2 := box(142, t0); t4 := assign(0)
  refine W.thn (by simp only [go_sem]; exact ⟨rfl, rfl⟩) ?_
  -- 1: t5 := move(t1); t6 := fieldAddr(142, t2, 2); t7 := load(3, t6); t8 := (add, 3, t5, t7, 3); t9 := (sub, 3, t8, 1, 3); t10 := fieldAddr(142, t2, 2); t11 := load(3, t10); t12 := (quo, 3, t9, t11, 3); t4 := assign(t12)
  refine W.thn (by simp only [go_sem, hg0, e1, e2, e4, e3]; exact ⟨rfl, rfl⟩) ?_
  refine W.ret ⟨.inr rfl, _, res1 Tryz.results114, ?_⟩
  simp only [go_sem]
  exact Weak.refl _

def lookErr (x : Sch) (p rows : Int) : Int := if schOk x p then (if within rows 1 1024 then 0 else 1) else 40
theorem pc148 (x : Sch) (p rows : Int) : PureCall Tryz.prog 148 [x.av, .agg [.int .i64 p], .int .i64 rows] (.int .i64 (lookErr x p rows)) := by
  refine pureCall Tryz.func148 rfl Tryz.ntmps148 rfl ?_
  simp only [go_sem]
  -- 0: t3 := box(27, t0); t4 := box(30, t1); t6 := assign(0)
  refine W.thn (by simp only [go_sem]; exact ⟨rfl, rfl⟩) ?_
  refine W.seq ?_
  refine W.block ?_
  -- 1: t8 := load(27, t3); t9 := load(30, t4); t10 := call(value(F60<scheme.Valid>)[t8, t9]); t11 := unOp(not, 4, t10); t7 := assign(t11)
  refine W.thn (by
    simp only [go_sem]
    refine WP_pc (pc60 x p) ent60 (by simp only [go_sem, aTarget]) rfl rfl ?_ -- call(value(F60<scheme.Valid>)[t8, t9])
    simp only [go_sem]
    exact ⟨rfl, rfl⟩) ?_
  refine W.ifNB rfl (fun h1 => ?_) fun h1 => ?_ -- t7
  ·
    -- 2: t6 := assign(40)
    refine W.thn (by simp only [go_sem, h1]; exact ⟨rfl, rfl⟩) ?_
    refine W.ret ⟨.inr rfl, _, res1 Tryz.results148, ?_⟩
    simp only [go_sem, h1]
    exact Weak.of_eq (by simp [lookErr, h1])
  ·
    -- 3: t13 := move(t2); t14 := call(value(F112<scheme.within>)[t13, 1, 1024]); t15 := unOp(not, 4, t14); t12 := assign(t15)
    refine W.thn (by
      simp only [go_sem, h1]
      refine WP_pc (pc112 rows 1 1024) ent112 (by simp only [go_sem, aTarget]) rfl rfl ?_ -- call(value(F112<scheme.within>)[t13, 1, 1024])
      simp only [go_sem, h1]
      exact ⟨rfl, rfl⟩) ?_
    refine W.ifNB rfl (fun h2 => ?_) fun h2 => ?_ -- t12
    ·
      -- 4: t6 := assign(1)
      refine W.thn (by simp only [go_sem, h1, h2]; exact ⟨rfl, rfl⟩) ?_
      refine W.ret ⟨.inr rfl, _, res1 Tryz.results148, ?_⟩
      simp only [go_sem, h1, h2]
      exact Weak.of_eq (by simp [lookErr, h1, h2])
    ·
      refine W.skip ?_
      -- 5: t6 := assign(0)
      refine W.thn (by simp only [go_sem, h1, h2]; exact ⟨rfl, rfl⟩) ?_
      refine W.ret ⟨.inr rfl, _, res1 Tryz.results148, ?_⟩
      simp only [go_sem, h1, h2]
      exact Weak.of_eq (by simp [lookErr, h1, h2])

def kindAV (x : Sch) : AV := if x.k = 1 then .iface 206 (.agg [.int .i64 x.s]) else if x.k = 2 then .iface 207 (.agg [.int .i64 x.s, .int .i64 x.d]) else .iface 142 (stoOf x)
theorem pc149 (x : Sch) : PureCall Tryz.prog 149 [x.av] (kindAV x) := by
  refine pureCall Tryz.func149 rfl Tryz.ntmps149 rfl ?_
  simp only [go_sem]
  -- 0: t1 := box(27, t0); t2 := assign(nilIface)
  refine W.thn (by simp only [go_sem]; exact ⟨rfl, rfl⟩) ?_
  refine W.seq ?_
  -- 1: t3 := fieldAddr(27, t1, 0); t4 := load(3, t3)
  refine W.thn (by simp only [go_sem]; exact ⟨rfl, rfl⟩) ?_
  refine W.block ?_
  -- 2: t6 := (eql, 3, t4, 1, 3); t5 := assign(t6)
  refine W.thn (by simp only [go_sem]; exact ⟨rfl, rfl⟩) ?_
  refine W.ifB rfl (fun h1 => ?_) fun h1 => ?_ -- t5
  ·
    -- 3: t7 := fieldAddr(27, t1, 1); t8 := load(3, t7); t9 := build(206, [(0, t8)]); t10 := makeInterface(206, t9); t2 := assign(t10)
    refine W.thn (by simp only [go_sem, h1]; exact ⟨rfl, rfl⟩) ?_
    refine W.ret ⟨.inr rfl, _, res1 Tryz.results149, ?_⟩
    simp only [go_sem, h1]
    exact Weak.of_eq (by simp only [decide_eq_true_eq, decide_eq_false_iff_not] at h1 ⊢; simp [kindAV, stoOf, h1])
  ·
    -- 4: t12 := (eql, 3, t4, 2, 3); t11 := assign(t12)
    refine W.thn (by simp only [go_sem, h1]; exact ⟨rfl, rfl⟩) ?_
    refine W.ifB rfl (fun h2 => ?_) fun h2 => ?_ -- t11
    ·
      -- 5: t13 := fieldAddr(27, t1, 1); t14 := load(3, t13); t15 := fieldAddr(27, t1, 2); t16 := load(3, t15); t17 := build(207, [(0, t14), (1, t16)]); t18 := makeInterface(207, t17); t2 := assign(t18)
      refine W.thn (by simp only [go_sem, h1, h2]; exact ⟨rfl, rfl⟩) ?_
      refine W.ret ⟨.inr rfl, _, res1 Tryz.results149, ?_⟩
      simp only [go_sem, h1, h2]
      exact Weak.of_eq (by simp only [decide_eq_true_eq, decide_eq_false_iff_not] at h1 h2 ⊢; simp [kindAV, stoOf, h1, h2])
    ·
      refine W.skip ?_
      -- 6: t19 := load(27, t1); t20 := call(value(F113<scheme.storage>)[t19]); t21 := makeInterface(142, t20); t2 := assign(t21)
      refine W.thn (by
        simp only [go_sem, h1, h2]
        refine WP_pc (pc113 x) ent113 (by simp only [go_sem, aTarget]) rfl rfl ?_ -- call(value(F113<scheme.storage>)[t19])
        simp only [go_sem, h1, h2]
        exact ⟨rfl, rfl⟩) ?_
      refine W.ret ⟨.inr rfl, _, res1 Tryz.results149, ?_⟩
      simp only [go_sem, h1, h2]
      exact Weak.of_eq (by simp only [decide_eq_true_eq, decide_eq_false_iff_not] at h1 h2 ⊢; simp [kindAV, stoOf, h1, h2])
end Go.Ab
end
section
set_option linter.unusedVariables false
set_option linter.unusedSimpArgs false
namespace Go.Ab
open Go.RowKit Go.Proofs

theorem shape_g {x : Sch} (h : shapeOk x = true) (hk : x.k = 3) : 1 ≤ x.g ∧ x.g ≤ 10 ∧ 1 ≤ x.d ∧ x.d ≤ 10 ∧ 2 ≤ x.s ∧ x.s ≤ 10 := by
  simp only [shapeOk, decide_eq_true_eq] at h
  omega
def unitsOf (x : Sch) (rows : Int) : Int := if shapeOk x && within rows 1 1024 then (if x.k = 3 then (rows + x.g - 1) / x.g else rows) else 0
theorem pc65 (x : Sch) (rows : Int) : PureCall Tryz.prog 65 [x.av, .int .i64 rows] (.int .i64 (unitsOf x rows)) := by
  refine pureCall Tryz.func65 rfl Tryz.ntmps65 rfl ?_
  simp only [go_sem]
  -- 0: t2 := box(27, t0); t4 := assign(0)
  refine W.thn (by simp only [go_sem]; exact ⟨rfl, rfl⟩) ?_
  refine W.seq ?_
  refine W.block ?_
  -- 1: t6 := load(27, t2); t7 := call(value(F88<scheme.Shape>)[t6]); t8 := unOp(not, 4, t7); t9 := move(t8); t10 := move(t1) Gsome((3, false)); t11 := call(value(F112<scheme.within>)[t10, 1, 1024]) Gsome((3, false)); t12 := unOp(not, 4, t11) Gsome((3, false)); t13 := pick(t9, true, t12); t5 := assign(t13)
  refine W.thnK fun K hK => ?_
  simp only [go_sem]
  refine WP_pc (pc88 x) ent88 (by simp only [go_sem, aTarget]) rfl rfl ?_ -- call(value(F88<scheme.Shape>)[t6])
  simp only [go_sem]
  refine guardW_nf (fun h1 => ?_) fun h1 => ?_
  ·
    simp only [go_sem, h1]
    refine WP_pc (pc112 rows 1 1024) ent112 (by simp only [go_sem, aTarget]) rfl rfl ?_ -- call(value(F112<scheme.within>)[t10, 1, 1024])
    simp only [go_sem, h1]
    refine hK _ _ ?_
    refine W.ifNB rfl (fun h2 => ?_) fun h2 => ?_ -- t5
    ·
      -- 2: t4 := assign(0)
      refine W.thn (by simp only [go_sem, h1, h2]; exact ⟨rfl, rfl⟩) ?_
      refine W.ret ⟨.inr rfl, _, res1 Tryz.results65, ?_⟩
      simp only [go_sem, h1, h2]
      exact Weak.of_eq (congrArg (AV.int .i64) (by first | (simp only [decide_eq_true_eq] at h3; simp [unitsOf, h1, h2]; done) | (simp only [decide_eq_false_iff_not] at h3; simp [unitsOf, h1, h2]; done) | simp [unitsOf, h1, h2]))
    ·
      -- 3: t15 := fieldAddr(27, t2, 0); t16 := load(3, t15); t17 := (eql, 3, t16, 3, 3); t14 := assign(t17)
      refine W.thn (by simp only [go_sem, h1, h2]; exact ⟨rfl, rfl⟩) ?_
      refine W.ifB rfl (fun h3 => ?_) fun h3 => ?_ -- t14
      ·
        -- 4: t18 := load(27, t2); t19 := call(value(F113<scheme.storage>)[t18]); t20 := move(t1); t21 := call(value(F114<scheme.groups).units>)[t19, t20]); t4 := assign(t21)
        refine W.thn (by
          simp only [go_sem, h1, h2, h3]
          refine WP_pc (pc113 x) ent113 (by simp only [go_sem, aTarget]) rfl rfl ?_ -- call(value(F113<scheme.storage>)[t18])
          simp only [go_sem, h1, h2, h3]
          refine WP_pc (pc114 x.s x.d x.g rows (by simp only [decide_eq_true_eq] at h3; have := shape_g h1 h3; omega) (by simp only [within, decide_eq_true_eq] at h2; omega)) ent114 (by simp only [go_sem, aTarget]) rfl rfl ?_ -- call(value(F114<scheme.groups).units>)[t19, t20])
          simp only [go_sem, h1, h2, h3]
          exact ⟨rfl, rfl⟩) ?_
        refine W.ret ⟨.inr rfl, _, res1 Tryz.results65, ?_⟩
        simp only [go_sem, h1, h2, h3]
        exact Weak.of_eq (congrArg (AV.int .i64) (by first | (simp only [decide_eq_true_eq] at h3; simp [unitsOf, h1, h2, h3]; done) | (simp only [decide_eq_false_iff_not] at h3; simp [unitsOf, h1, h2, h3]; done) | simp [unitsOf, h1, h2, h3]))
      ·
        refine W.skip ?_
        -- 5: t22 := move(t1); t4 := assign(t22)
        refine W.thn (by simp only [go_sem, h1, h2, h3]; exact ⟨rfl, rfl⟩) ?_
        refine W.ret ⟨.inr rfl, _, res1 Tryz.results65, ?_⟩
        simp only [go_sem, h1, h2, h3]
        exact Weak.of_eq (congrArg (AV.int .i64) (by first | (simp only [decide_eq_true_eq] at h3; simp [unitsOf, h1, h2, h3]; done) | (simp only [decide_eq_false_iff_not] at h3; simp [unitsOf, h1, h2, h3]; done) | simp [unitsOf, h1, h2, h3]))
  ·
    simp only [go_sem, h1]
    refine hK _ _ ?_
    refine W.condT rfl ?_
    -- 2: t4 := assign(0)
    refine W.thn (by simp only [go_sem, h1]; exact ⟨rfl, rfl⟩) ?_
    refine W.ret ⟨.inr rfl, _, res1 Tryz.results65, ?_⟩
    simp only [go_sem, h1]
    exact Weak.of_eq (congrArg (AV.int .i64) (by first | (simp only [decide_eq_true_eq] at h3; simp [unitsOf, h1]; done) | (simp only [decide_eq_false_iff_not] at h3; simp [unitsOf, h1]; done) | simp [unitsOf, h1]))
end Go.Ab
end
section
set_option linter.unusedVariables false
set_option linter.unusedSimpArgs false
namespace Go.Ab
open Go.RowKit Go.Proofs

theorem wu64 {n : Int} (h : 0 ≤ n ∧ n < 18446744073709551616) : IntKind.u64.wrap n = n := by
  simp [IntKind.wrap, IntKind.signed, IntKind.bits]
  omega
theorem and32 {a : Int} (h : 0 ≤ a ∧ a < 4294967296) : bits2 .u64 (fun x y => x &&& y) a 4294967295 = a := by
  obtain ⟨n, rfl⟩ : ∃ n : Nat, a = n := ⟨a.toNat, by omega⟩
  unfold bits2
  have e : ((BitVec.ofInt IntKind.u64.bits (n : Int)) &&& (BitVec.ofInt IntKind.u64.bits 4294967295)).toNat = n := by
    rw [BitVec.toNat_and, BitVec.toNat_ofInt, BitVec.toNat_ofInt]
    have e1 : ((n : Int) % ((2 ^ IntKind.u64.bits : Nat) : Int)).toNat = n := by
      have : ((2 ^ IntKind.u64.bits : Nat) : Int) = 18446744073709551616 := by decide
      rw [this]; omega
    have e2 : ((4294967295 : Int) % ((2 ^ IntKind.u64.bits : Nat) : Int)).toNat = 2 ^ 32 - 1 := by decide
    rw [e1, e2, Nat.and_two_pow_sub_one_eq_mod]
    exact Nat.mod_eq_of_lt (by omega)
  rw [e]
  exact wu64 (by omega)
theorem shr32 {a : Int} (h : 0 ≤ a ∧ a < 4294967296) : a.fdiv (2 ^ min 32 64) = 0 := by
  have : (2 : Int) ^ min 32 64 = 4294967296 := by decide
  rw [this, Int.fdiv_eq_ediv_of_nonneg _ (by omega)]
  exact Int.ediv_eq_zero_of_lt h.1 h.2
theorem pc147 (x y : Int) (hx : 0 ≤ x ∧ x ≤ 65535) (hy : 0 ≤ y ∧ y ≤ 65535) : PureCall Tryz.prog 147 [.int .u64 x, .int .u64 y] (.tuple [.int .u64 0, .int .u64 (x * y)]) := by
  refine pureCall Tryz.func147 rfl Tryz.ntmps147 rfl ?_
  have hm : x * y ≤ 65535 * 65535 := Int.mul_le_mul hx.2 hy.2 hy.1 (by omega)
  have hxy : 0 ≤ x * y ∧ x * y ≤ 4294836225 := ⟨Int.mul_nonneg hx.1 hy.1, by omega⟩
  have a1 := and32 (a := x) (by omega)
  have a2 := and32 (a := y) (by omega)
  have a3 := and32 (a := 0) (by omega)
  have s1 := shr32 (a := x) (by omega)
  have s2 := shr32 (a := y) (by omega)
  have s3 := shr32 (a := x * y) (by omega)
  have s4 := shr32 (a := 0) (by omega)
  try simp only [go_sem] at a1 a2 a3
  have w1 : IntKind.u64.wrap (x * y) = x * y := wu64 (by omega)
  have w2 : IntKind.u64.wrap 0 = 0 := wu64 (by omega)
  simp only [go_sem]
  -- 0: t4 := assign(0); t5 := assign(0)
  refine W.thn (by simp only [go_sem, a1, a2, a3, s1, s2, s3, s4, w1, w2, Int.zero_mul, Int.mul_zero, Int.add_zero, Int.zero_add]; exact ⟨rfl, rfl⟩) ?_
  -- 1: t14 := move(t0); t15 := (and, 179, t14, 4294967295, 179); t6 := assign(t15)
  refine W.thn (by simp only [go_sem, a1, a2, a3, s1, s2, s3, s4, w1, w2, Int.zero_mul, Int.mul_zero, Int.add_zero, Int.zero_add]; exact ⟨rfl, rfl⟩) ?_
  -- 2: t16 := move(t0); t17 := (shr, 179, t16, 32, 134); t7 := assign(t17)
  refine W.thn (by simp only [go_sem, a1, a2, a3, s1, s2, s3, s4, w1, w2, Int.zero_mul, Int.mul_zero, Int.add_zero, Int.zero_add]; exact ⟨rfl, rfl⟩) ?_
  -- 3: t18 := move(t1); t19 := (and, 179, t18, 4294967295, 179); t8 := assign(t19)
  refine W.thn (by simp only [go_sem, a1, a2, a3, s1, s2, s3, s4, w1, w2, Int.zero_mul, Int.mul_zero, Int.add_zero, Int.zero_add]; exact ⟨rfl, rfl⟩) ?_
  -- 4: t20 := move(t1); t21 := (shr, 179, t20, 32, 134); t9 := assign(t21)
  refine W.thn (by simp only [go_sem, a1, a2, a3, s1, s2, s3, s4, w1, w2, Int.zero_mul, Int.mul_zero, Int.add_zero, Int.zero_add]; exact ⟨rfl, rfl⟩) ?_
  -- 5: t22 := move(t6); t23 := move(t8); t24 := (mul, 179, t22, t23, 179); t10 := assign(t24)
  refine W.thn (by simp only [go_sem, a1, a2, a3, s1, s2, s3, s4, w1, w2, Int.zero_mul, Int.mul_zero, Int.add_zero, Int.zero_add]; exact ⟨rfl, rfl⟩) ?_
  -- 6: t25 := move(t7); t26 := move(t8); t27 := (mul, 179, t25, t26, 179); t28 := move(t10); t29 := (shr, 179, t28, 32, 134); t30 := (add, 179, t27, t29, 179); t11 := assign(t30)
  refine W.thn (by simp only [go_sem, a1, a2, a3, s1, s2, s3, s4, w1, w2, Int.zero_mul, Int.mul_zero, Int.add_zero, Int.zero_add]; exact ⟨rfl, rfl⟩) ?_
  -- 7: t31 := move(t11); t32 := (and, 179, t31, 4294967295, 179); t12 := assign(t32)
  refine W.thn (by simp only [go_sem, a1, a2, a3, s1, s2, s3, s4, w1, w2, Int.zero_mul, Int.mul_zero, Int.add_zero, Int.zero_add]; exact ⟨rfl, rfl⟩) ?_
  -- 8: t33 := move(t11); t34 := (shr, 179, t33, 32, 134); t13 := assign(t34)
  refine W.thn (by simp only [go_sem, a1, a2, a3, s1, s2, s3, s4, w1, w2, Int.zero_mul, Int.mul_zero, Int.add_zero, Int.zero_add]; exact ⟨rfl, rfl⟩) ?_
  -- 9: t35 := move(t12); t36 := move(t6); t37 := move(t9); t38 := (mul, 179, t36, t37, 179); t39 := (add, 179, t35, t38, 179); t12 := assign(t39)
  refine W.thn (by simp only [go_sem, a1, a2, a3, s1, s2, s3, s4, w1, w2, Int.zero_mul, Int.mul_zero, Int.add_zero, Int.zero_add]; exact ⟨rfl, rfl⟩) ?_
  -- 10: t40 := move(t7); t41 := move(t9); t42 := (mul, 179, t40, t41, 179); t43 := move(t13); t44 := (add, 179, t42, t43, 179); t45 := move(t12); t46 := (shr, 179, t45, 32, 134); t47 := (add, 179, t44, t46, 179); t4 := assign(t47)
  refine W.thn (by simp only [go_sem, a1, a2, a3, s1, s2, s3, s4, w1, w2, Int.zero_mul, Int.mul_zero, Int.add_zero, Int.zero_add]; exact ⟨rfl, rfl⟩) ?_
  -- 11: t48 := move(t0); t49 := move(t1); t50 := (mul, 179, t48, t49, 179); t5 := assign(t50)
  refine W.thn (by simp only [go_sem, a1, a2, a3, s1, s2, s3, s4, w1, w2, Int.zero_mul, Int.mul_zero, Int.add_zero, Int.zero_add]; exact ⟨rfl, rfl⟩) ?_
  refine W.ret ⟨.inr rfl, _, res2 Tryz.results147, ?_⟩
  simp only [go_sem]
  exact Weak.refl _
theorem pc106 (x y : Int) (hx : 0 ≤ x ∧ x ≤ 65535) (hy : 0 ≤ y ∧ y ≤ 65535) : PureCall Tryz.prog 106 [.int .u64 x, .int .u64 y] (.tuple [.int .u64 0, .int .u64 (x * y)]) := by
  refine pureCall Tryz.func106 rfl Tryz.ntmps106 rfl ?_
  simp only [go_sem]
  -- 0: t4 := assign(0); t5 := assign(0)
  refine W.thn (by simp only [go_sem]; exact ⟨rfl, rfl⟩) ?_
  refine W.seq ?_
  refine W.condF rfl ?_
  refine W.skip ?_
  -- 3: t23 := move(t0); t24 := move(t1); t25 := call(value(F147<bits.Mul64>)[t23, t24]); t22 := move(t25); t26 := extract(t22, 0); t27 := extract(t22, 1); t8 := assign(t26); t9 := assign(t27)
  refine W.thn (by
    simp only [go_sem]
    refine WP_pc (pc147 x y hx hy) ent147 (by simp only [go_sem, aTarget]) rfl rfl ?_ -- call(value(F147<bits.Mul64>)[t23, t24])
    simp only [go_sem]
    exact ⟨rfl, rfl⟩) ?_
  -- 4: t28 := move(t8); t29 := move(t9); t4 := assign(t28); t5 := assign(t29)
  refine W.thn (by simp only [go_sem]; exact ⟨rfl, rfl⟩) ?_
  refine W.ret ⟨.inr rfl, _, res2 Tryz.results106, ?_⟩
  simp only [go_sem]
  exact Weak.refl _
end Go.Ab
end
section
set_option linter.unusedVariables false
set_option linter.unusedSimpArgs false
namespace Go.Ab
open Go.RowKit Go.Proofs

def parErr (p rows s : Int) : Int := if fieldOk p = true then (if 2 ≤ s ∧ s ≤ 10 ∧ 1 ≤ rows ∧ rows ≤ 1024 then 0 else 1) else 9
theorem pc237 (p rows s : Int) : PureCall Tryz.prog 237 [.agg [.int .i64 p], .int .i64 rows, .int .i64 s] (.int .i64 (parErr p rows s)) := by
  refine pureCall Tryz.func237 rfl Tryz.ntmps237 rfl ?_
  simp only [go_sem]
  -- 0: t3 := box(30, t0); t6 := assign(0)
  refine W.thn (by simp only [go_sem]; exact ⟨rfl, rfl⟩) ?_
  refine W.seq ?_
  -- 1: t10 := load(30, t3); t11 := call(value(F126<residue.Of>)[t10]); t9 := move(t11); t12 := extract(t9, 0); t13 := extract(t9, 1); t7 := assign(t12); t8 := assign(t13)
  refine W.thn (by
    simp only [go_sem]
    refine WP_pc (pc126 p) ent126 (by simp only [go_sem, aTarget]) rfl rfl ?_ -- call(value(F126<residue.Of>)[t10])
    simp only [go_sem]
    exact ⟨rfl, rfl⟩) ?_
  -- 2: t14 := move(t8); t15 := unOp(not, 4, t14)
  refine W.thn (by simp only [go_sem]; exact ⟨rfl, rfl⟩) ?_
  refine W.ifNB rfl (fun h1 => ?_) fun h1 => ?_ -- t15
  ·
    -- 3: t6 := assign(9)
    refine W.thn (by simp only [go_sem, h1]; exact ⟨rfl, rfl⟩) ?_
    refine W.ret ⟨.inr rfl, _, res1 Tryz.results237, ?_⟩
    simp only [go_sem, h1]
    refine Weak.of_eq (congrArg (AV.int .i64) ?_); first | (rw [parErr, if_neg (by rw [h1]; simp)]; done) | (rw [parErr, if_pos h1, if_neg (by omega)]; done) | (rw [parErr, if_pos h1, if_pos (by omega)]; done)
  ·
    refine W.skip ?_
    refine W.seq ?_
    -- 4: t16 := move(t2); t17 := (lss, 3, t16, 2, 3); t18 := move(t17); t19 := move(t2) Gsome((2, false)); t20 := (gtr, 3, t19, 10, 3) Gsome((2, false)); t21 := pick(t18, true, t20); t22 := move(t21); t23 := move(t1) Gsome((6, false)); t24 := (lss, 3, t23, 1, 3) Gsome((6, false)); t25 := pick(t22, true, t24); t26 := move(t25); t27 := move(t1) Gsome((10, false)); t28 := (gtr, 3, t27, 1024, 3) Gsome((10, false)); t29 := pick(t26, true, t28)
    refine W.thnK fun K hK => ?_
    simp only [go_sem, h1]
    refine guardW_f (fun h2 => ?_) fun h2 => ?_
    ·
      simp only [go_sem, h1, h2]
      refine guardW_f (fun h3 => ?_) fun h3 => ?_
      ·
        simp only [go_sem, h1, h2, h3]
        refine guardW_f (fun h4 => ?_) fun h4 => ?_
        ·
          simp only [go_sem, h1, h2, h3, h4]
          refine hK _ _ ?_
          refine W.ifB rfl (fun h5 => ?_) fun h5 => ?_ -- t29
          ·
            -- 5: t6 := assign(1)
            refine W.thn (by simp only [go_sem, h1, h2, h3, h4, h5]; exact ⟨rfl, rfl⟩) ?_
            refine W.ret ⟨.inr rfl, _, res1 Tryz.results237, ?_⟩
            simp only [go_sem, h1, h2, h3, h4, h5]
            refine Weak.of_eq (congrArg (AV.int .i64) ?_); simp only [decide_eq_true_eq, decide_eq_false_iff_not] at h1 h2 h3 h4 h5 ⊢; first | (rw [parErr, if_neg (by rw [h1]; simp)]; done) | (rw [parErr, if_pos h1, if_neg (by omega)]; done) | (rw [parErr, if_pos h1, if_pos (by omega)]; done)
          ·
            refine W.skip ?_
            -- 6: t6 := assign(0)
            refine W.thn (by simp only [go_sem, h1, h2, h3, h4, h5]; exact ⟨rfl, rfl⟩) ?_
            refine W.ret ⟨.inr rfl, _, res1 Tryz.results237, ?_⟩
            simp only [go_sem, h1, h2, h3, h4, h5]
            refine Weak.of_eq (congrArg (AV.int .i64) ?_); simp only [decide_eq_true_eq, decide_eq_false_iff_not] at h1 h2 h3 h4 h5 ⊢; first | (rw [parErr, if_neg (by rw [h1]; simp)]; done) | (rw [parErr, if_pos h1, if_neg (by omega)]; done) | (rw [parErr, if_pos h1, if_pos (by omega)]; done)
        ·
          simp only [go_sem, h1, h2, h3, h4]
          refine hK _ _ ?_
          refine W.condT rfl ?_
          -- 5: t6 := assign(1)
          refine W.thn (by simp only [go_sem, h1, h2, h3, h4]; exact ⟨rfl, rfl⟩) ?_
          refine W.ret ⟨.inr rfl, _, res1 Tryz.results237, ?_⟩
          simp only [go_sem, h1, h2, h3, h4]
          refine Weak.of_eq (congrArg (AV.int .i64) ?_); simp only [decide_eq_true_eq, decide_eq_false_iff_not] at h1 h2 h3 h4 ⊢; first | (rw [parErr, if_neg (by rw [h1]; simp)]; done) | (rw [parErr, if_pos h1, if_neg (by omega)]; done) | (rw [parErr, if_pos h1, if_pos (by omega)]; done)
      ·
        simp only [go_sem, h1, h2, h3]
        refine hK _ _ ?_
        refine W.condT rfl ?_
        -- 5: t6 := assign(1)
        refine W.thn (by simp only [go_sem, h1, h2, h3]; exact ⟨rfl, rfl⟩) ?_
        refine W.ret ⟨.inr rfl, _, res1 Tryz.results237, ?_⟩
        simp only [go_sem, h1, h2, h3]
        refine Weak.of_eq (congrArg (AV.int .i64) ?_); simp only [decide_eq_true_eq, decide_eq_false_iff_not] at h1 h2 h3 ⊢; first | (rw [parErr, if_neg (by rw [h1]; simp)]; done) | (rw [parErr, if_pos h1, if_neg (by omega)]; done) | (rw [parErr, if_pos h1, if_pos (by omega)]; done)
    ·
      simp only [go_sem, h1, h2]
      refine hK _ _ ?_
      refine W.condT rfl ?_
      -- 5: t6 := assign(1)
      refine W.thn (by simp only [go_sem, h1, h2]; exact ⟨rfl, rfl⟩) ?_
      refine W.ret ⟨.inr rfl, _, res1 Tryz.results237, ?_⟩
      simp only [go_sem, h1, h2]
      refine Weak.of_eq (congrArg (AV.int .i64) ?_); simp only [decide_eq_true_eq, decide_eq_false_iff_not] at h1 h2 ⊢; first | (rw [parErr, if_neg (by rw [h1]; simp)]; done) | (rw [parErr, if_pos h1, if_neg (by omega)]; done) | (rw [parErr, if_pos h1, if_pos (by omega)]; done)

def parLimits (p rows s : Int) : List Int := if parErr p rows s = 0 then List.replicate (rows * (s - 1)).toNat p else []
theorem rep_next (j : Nat) (p : Int) : List.map (AV.int .i64) (List.replicate j p) ++ [AV.int .i64 p] = List.map (AV.int .i64) (List.replicate (j + 1) p) := by
  rw [List.replicate_succ']; simp
theorem pc235 (p rows s : Int) : PureCall Tryz.prog 235 [.agg [.int .i64 p], .int .i64 rows, .int .i64 s] (.tuple [ints (parLimits p rows s), .int .i64 (parErr p rows s)]) := by
  refine pureCall Tryz.func235 rfl Tryz.ntmps235 rfl ?_
  simp only [go_sem]
  -- 0: t3 := box(30, t0); t6 := assign(slice(none, 0, 0)); t7 := assign(0)
  refine W.thn (by simp only [go_sem]; exact ⟨rfl, rfl⟩) ?_
  refine W.seq ?_
  -- 1: t10 := load(30, t3); t11 := move(t1); t12 := move(t2); t13 := call(value(F237<parity.check>)[t10, t11, t12]); t8 := assign(t13)
  refine W.thn (by
    simp only [go_sem]
    refine WP_pc (pc237 p rows s) ent237 (by simp only [go_sem, aTarget]) rfl rfl ?_ -- call(value(F237<parity.check>)[t10, t11, t12])
    simp only [go_sem]
    exact ⟨rfl, rfl⟩) ?_
  -- 2: t14 := move(t8); t15 := (neq, 37, t14, 0, 37)
  refine W.thn (by simp only [go_sem]; exact ⟨rfl, rfl⟩) ?_
  refine W.ifNB rfl (fun h1 => ?_) fun h1 => ?_ -- t15
  ·
    -- 3: t16 := move(t8); t6 := assign(slice(none, 0, 0)); t7 := assign(t16)
    refine W.thn (by simp only [go_sem, h1]; exact ⟨rfl, rfl⟩) ?_
    refine W.ret ⟨.inr rfl, _, res2 Tryz.results235, ?_⟩
    simp only [go_sem, h1]
    have e9 : parErr p rows s ≠ 0 := by simpa using h1
    simp only [parLimits, e9, if_false]
    exact Weak.tuple (.cons (Weak.nilSlice 1) (.cons (Weak.refl _) .nil))
  ·
    have e0 : parErr p rows s = 0 := by simpa using h1
    have hr : 2 ≤ s ∧ s ≤ 10 ∧ 1 ≤ rows ∧ rows ≤ 1024 := by
      unfold parErr at e0
      split at e0
      · split at e0
        · assumption
        · omega
      · omega
    have hm1 : rows * (s - 1) ≤ 1024 * 9 := Int.mul_le_mul (by omega) (by omega) (by omega) (by omega)
    have hm0 : 0 ≤ rows * (s - 1) := Int.mul_nonneg (by omega) (by omega)
    obtain ⟨n, hn⟩ : ∃ n : Nat, rows * (s - 1) = n := ⟨(rows * (s - 1)).toNat, by omega⟩
    have w1 : IntKind.i64.wrap (s - 1) = s - 1 := w64 (by omega)
    have w2 : IntKind.i64.wrap (n : Int) = n := w64 (by omega)
    refine W.skip ?_
    -- 4: t9 := assign(slice(none, 0, 0))
    refine W.thn (by simp only [go_sem, h1]; exact ⟨rfl, rfl⟩) ?_
    refine W.seq ?_
    -- 5: t17 := move(t1); t18 := move(t2); t19 := (sub, 3, t18, 1, 3); t20 := (mul, 3, t17, t19, 3); t21 := move(0)
    refine W.thn (by simp only [go_sem, h1, w1, hn, w2]; exact ⟨rfl, rfl⟩) ?_
    refine W.block ?_
    refine W.le (Le.slice0 (d := 9) 1 (by simp only [go_sem])) ?_
    refine W.loopEL [3, 9, 20, 21] 2 (Nat.zero_le _) (fun m l H => ∃ j : Nat, j ≤ n ∧ m = n - j ∧ l = [(3, .ptr 0 0 1), (9, .slice 1 1 0 j j none), (20, .int .i64 n), (21, .int .i64 j)] ∧ H = [.blk [.int .i64 p] 1 false, .blk ((List.replicate j p).map (AV.int .i64)) 0 false]) ⟨n, 0, by omega, by omega, by simp only [go_sem]; rfl, by simp⟩ fun m l H ⟨j, hj, hm, e1, e2⟩ => ?_
    subst e1; subst e2
    -- 6: t22 := (lss, 3, t21, t20, 3)
    refine W.thn (by simp only [go_sem, h1]; exact ⟨rfl, rfl⟩) ?_
    refine W.seq ?_
    refine W.ifB rfl (fun h2 => ?_) fun h2 => ?_ -- t22
    ·
      simp only [decide_eq_true_eq] at h2
      have hj1 : (j + 1) * 8 ≤ 140737488355328 := by omega
      refine W.skip ?_
      refine W.seq ?_
      refine W.block ?_
      -- 7: t23 := move(t9); t24 := fieldAddr(30, t3, 0); t25 := load(3, t24); t26 := buildSlice(33, 1, [(0, t25)]); t27 := call(builtin(append)[t23, t26]); t9 := assign(t27)
      refine W.lst (by simp only [go_sem, wrapS (show j < 4611686018427387904 by omega), List.length_replicate, hj1, Nat.succ_ne_zero, rep_next]; exact ⟨rfl, rfl⟩) ?_
      -- 8: t28 := (add, 3, t21, 1, 3); t21 := move(t28)
      refine W.lst (by simp only [go_sem, wrapS (show j < 4611686018427387904 by omega), List.length_replicate, hj1, Nat.succ_ne_zero, rep_next]; exact ⟨rfl, rfl⟩) ?_
      refine ⟨_, n - (j + 1), rfl, by omega, by simp, j + 1, by omega, by omega, by simp only [go_sem], by simp [cv_map_int, List.replicate_succ]⟩
    ·
      refine W.exit ?_ -- to 0
      -- 9: t29 := move(t9); t6 := assign(t29); t7 := assign(0)
      refine W.thn (by simp only [go_sem]; exact ⟨rfl, rfl⟩) ?_
      refine W.ret ⟨.inr rfl, _, res2 Tryz.results235, ?_⟩
      simp only [go_sem]
      simp only [decide_eq_false_iff_not] at h2
      have hj' : j = n := by omega
      have hl' : parLimits p rows s = List.replicate j p := by rw [parLimits, if_pos e0, hn, hj']; simp
      rw [hl', e0]
      refine Weak.tuple (.cons ?_ (.cons (Weak.refl _) .nil))
      split
      · rename_i h0; rw [h0]; exact Weak.vals _ _ _
      · rw [List.take_of_length_le (by simp), pv_map_int (k := 5)]
        exact Weak.vals _ _ _
theorem pc233 (p rows s : Int) : PureCall Tryz.prog 233 [.agg [.int .i64 s], .agg [.int .i64 p], .int .i64 rows] (.tuple [ints (parLimits p rows s), .int .i64 (parErr p rows s)]) := by
  refine pureCall Tryz.func233 rfl Tryz.ntmps233 rfl ?_
  simp only [go_sem]
  -- 0: t3 := box(206, t0); t4 := box(30, t1); t6 := assign(slice(none, 0, 0)); t7 := assign(0)
  refine W.thn (by simp only [go_sem]; exact ⟨rfl, rfl⟩) ?_
  -- 1: t8 := load(30, t4); t9 := move(t2); t10 := fieldAddr(206, t3, 0); t11 := load(3, t10); t12 := call(value(F235<parity.Limits>)[t8, t9, t11]); t13 := extract(t12, 0); t14 := extract(t12, 1); t6 := assign(t13); t7 := assign(t14)
  refine W.thn (by
    simp only [go_sem]
    refine WP_pc (pc235 p rows s) ent235 (by simp only [go_sem, aTarget]) rfl rfl ?_ -- call(value(F235<parity.Limits>)[t8, t9, t11])
    simp only [go_sem]
    exact ⟨rfl, rfl⟩) ?_
  refine W.ret ⟨.inr rfl, _, res2 Tryz.results233, ?_⟩
  simp only [go_sem]
  exact Weak.refl _
end Go.Ab
end
section
set_option linter.unusedVariables false
set_option linter.unusedSimpArgs false
namespace Go.Ab
open Go.RowKit Go.Proofs

def planOk (s d : Int) : Bool := decide (2 ≤ s ∧ s ≤ 10 ∧ 1 ≤ d ∧ d < s)
def curErr0 (p s d : Int) : Int := if fieldOk p = true then (if planOk s d = true ∧ s < p then 0 else 1) else 9
def curErr (p s d rows : Int) : Int := if curErr0 p s d = 0 ∧ ¬ (1 ≤ rows ∧ rows ≤ 1024) then 1 else curErr0 p s d
theorem pc252 (s d : Int) : PureCall Tryz.prog 252 [.agg [.int .i64 s, .int .i64 d]] (.bool (planOk s d)) := by
  refine pureCall Tryz.func252 rfl Tryz.ntmps252 rfl ?_
  simp only [go_sem]
  -- 0: t1 := box(149, t0); t2 := assign(false)
  refine W.thn (by simp only [go_sem]; exact ⟨rfl, rfl⟩) ?_
  -- 1: t3 := fieldAddr(149, t1, 0); t4 := load(3, t3); t5 := (geq, 3, t4, 2, 3); t6 := move(t5); t7 := fieldAddr(149, t1, 0) Gsome((3, true)); t8 := load(3, t7) Gsome((3, true)); t9 := (leq, 3, t8, 10, 3) Gsome((3, true)); t10 := pick(t6, t9, false); t11 := move(t10); t12 := fieldAddr(149, t1, 1) Gsome((8, true)); t13 := load(3, t12) Gsome((8, true)); t14 := (geq, 3, t13, 1, 3) Gsome((8, true)); t15 := pick(t11, t14, false); t16 := move(t15); t17 := fieldAddr(149, t1, 1) Gsome((13, true)); t18 := load(3, t17) Gsome((13, true)); t19 := fieldAddr(149, t1, 0) Gsome((13, true)); t20 := load(3, t19) Gsome((13, true)); t21 := (lss, 3, t18, t20, 3) Gsome((13, true)); t22 := pick(t16, t21, false); t2 := assign(t22)
  refine W.thnK fun K hK => ?_
  simp only [go_sem]
  refine guardW_t (fun h1 => ?_) fun h1 => ?_
  ·
    simp only [go_sem, h1]
    refine guardW_t (fun h2 => ?_) fun h2 => ?_
    ·
      simp only [go_sem, h1, h2]
      refine guardW_t (fun h3 => ?_) fun h3 => ?_
      ·
        simp only [go_sem, h1, h2, h3]
        refine hK _ _ ?_
        refine W.ret ⟨.inr rfl, _, res1 Tryz.results252, ?_⟩
        simp only [go_sem, h1, h2, h3]
        exact Weak.of_eq (congrArg AV.bool (Bool.eq_iff_iff.2 (by simp only [planOk, Bool.and_eq_true, Bool.or_eq_true, Bool.not_eq_true', decide_eq_true_eq, decide_eq_false_iff_not, Bool.false_eq_true, true_iff, false_iff, iff_true, iff_false] at h1 h2 h3 ⊢; omega)))
      ·
        simp only [go_sem, h1, h2, h3]
        refine hK _ _ ?_
        refine W.ret ⟨.inr rfl, _, res1 Tryz.results252, ?_⟩
        simp only [go_sem, h1, h2, h3]
        exact Weak.of_eq (congrArg AV.bool (Bool.eq_iff_iff.2 (by simp only [planOk, Bool.and_eq_true, Bool.or_eq_true, Bool.not_eq_true', decide_eq_true_eq, decide_eq_false_iff_not, Bool.false_eq_true, true_iff, false_iff, iff_true, iff_false] at h1 h2 h3 ⊢; omega)))
    ·
      simp only [go_sem, h1, h2]
      refine hK _ _ ?_
      refine W.ret ⟨.inr rfl, _, res1 Tryz.results252, ?_⟩
      simp only [go_sem, h1, h2]
      exact Weak.of_eq (congrArg AV.bool (Bool.eq_iff_iff.2 (by simp only [planOk, Bool.and_eq_true, Bool.or_eq_true, Bool.not_eq_true', decide_eq_true_eq, decide_eq_false_iff_not, Bool.false_eq_true, true_iff, false_iff, iff_true, iff_false] at h1 h2 ⊢; omega)))
  ·
    simp only [go_sem, h1]
    refine hK _ _ ?_
    refine W.ret ⟨.inr rfl, _, res1 Tryz.results252, ?_⟩
    simp only [go_sem, h1]
    exact Weak.of_eq (congrArg AV.bool (Bool.eq_iff_iff.2 (by simp only [planOk, Bool.and_eq_true, Bool.or_eq_true, Bool.not_eq_true', decide_eq_true_eq, decide_eq_false_iff_not, Bool.false_eq_true, true_iff, false_iff, iff_true, iff_false] at h1 ⊢; omega)))
theorem pc249 (p s d : Int) : PureCall Tryz.prog 249 [.agg [.int .i64 p], .agg [.int .i64 s, .int .i64 d]] (.int .i64 (curErr0 p s d)) := by
  refine pureCall Tryz.func249 rfl Tryz.ntmps249 rfl ?_
  simp only [go_sem]
  -- 0: t2 := box(30, t0); t3 := box(149, t1); t4 := assign(0)
  refine W.thn (by simp only [go_sem]; exact ⟨rfl, rfl⟩) ?_
  refine W.seq ?_
  -- 1: t8 := load(30, t2); t9 := call(value(F126<residue.Of>)[t8]); t7 := move(t9); t10 := extract(t7, 0); t11 := extract(t7, 1); t5 := assign(t10); t6 := assign(t11)
  refine W.thn (by
    simp only [go_sem]
    refine WP_pc (pc126 p) ent126 (by simp only [go_sem, aTarget]) rfl rfl ?_ -- call(value(F126<residue.Of>)[t8])
    simp only [go_sem]
    exact ⟨rfl, rfl⟩) ?_
  -- 2: t12 := move(t6); t13 := unOp(not, 4, t12)
  refine W.thn (by simp only [go_sem]; exact ⟨rfl, rfl⟩) ?_
  refine W.ifNB rfl (fun h1 => ?_) fun h1 => ?_ -- t13
  ·
    -- 3: t4 := assign(9)
    refine W.thn (by simp only [go_sem, h1]; exact ⟨rfl, rfl⟩) ?_
    refine W.ret ⟨.inr rfl, _, res1 Tryz.results249, ?_⟩
    simp only [go_sem, h1]
    exact Weak.of_eq (congrArg (AV.int .i64) (by (try simp only [decide_eq_true_eq, decide_eq_false_iff_not] at h1 ⊢); simp [curErr0, h1]; try omega))
  ·
    refine W.skip ?_
    refine W.seq ?_
    -- 4: t14 := load(149, t3); t15 := call(value(F252<curve.valid>)[t14]); t16 := unOp(not, 4, t15); t17 := move(t16); t18 := fieldAddr(149, t3, 0) Gsome((3, false)); t19 := load(3, t18) Gsome((3, false)); t20 := fieldAddr(30, t2, 0) Gsome((3, false)); t21 := load(3, t20) Gsome((3, false)); t22 := (geq, 3, t19, t21, 3) Gsome((3, false)); t23 := pick(t17, true, t22)
    refine W.thnK fun K hK => ?_
    simp only [go_sem, h1]
    refine WP_pc (pc252 s d) ent252 (by simp only [go_sem, aTarget]) rfl rfl ?_ -- call(value(F252<curve.valid>)[t14])
    simp only [go_sem, h1]
    refine guardW_nf (fun h2 => ?_) fun h2 => ?_
    ·
      simp only [go_sem, h1, h2]
      refine hK _ _ ?_
      refine W.ifB rfl (fun h3 => ?_) fun h3 => ?_ -- t23
      ·
        -- 5: t4 := assign(1)
        refine W.thn (by simp only [go_sem, h1, h2, h3]; exact ⟨rfl, rfl⟩) ?_
        refine W.ret ⟨.inr rfl, _, res1 Tryz.results249, ?_⟩
        simp only [go_sem, h1, h2, h3]
        exact Weak.of_eq (congrArg (AV.int .i64) (by (try simp only [decide_eq_true_eq, decide_eq_false_iff_not] at h1 h2 h3 ⊢); simp [curErr0, h1, h2, h3]; try omega))
      ·
        refine W.skip ?_
        -- 6: t4 := assign(0)
        refine W.thn (by simp only [go_sem, h1, h2, h3]; exact ⟨rfl, rfl⟩) ?_
        refine W.ret ⟨.inr rfl, _, res1 Tryz.results249, ?_⟩
        simp only [go_sem, h1, h2, h3]
        exact Weak.of_eq (congrArg (AV.int .i64) (by (try simp only [decide_eq_true_eq, decide_eq_false_iff_not] at h1 h2 h3 ⊢); simp [curErr0, h1, h2, h3]; try omega))
    ·
      simp only [go_sem, h1, h2]
      refine hK _ _ ?_
      refine W.condT rfl ?_
      -- 5: t4 := assign(1)
      refine W.thn (by simp only [go_sem, h1, h2]; exact ⟨rfl, rfl⟩) ?_
      refine W.ret ⟨.inr rfl, _, res1 Tryz.results249, ?_⟩
      simp only [go_sem, h1, h2]
      exact Weak.of_eq (congrArg (AV.int .i64) (by (try simp only [decide_eq_true_eq, decide_eq_false_iff_not] at h1 h2 ⊢); simp [curErr0, h1, h2]; try omega))
theorem pc247 (p s d rows : Int) : PureCall Tryz.prog 247 [.agg [.int .i64 p], .agg [.int .i64 s, .int .i64 d], .int .i64 rows] (.int .i64 (curErr p s d rows)) := by
  refine pureCall Tryz.func247 rfl Tryz.ntmps247 rfl ?_
  simp only [go_sem]
  -- 0: t3 := box(30, t0); t4 := box(149, t1); t6 := assign(0)
  refine W.thn (by simp only [go_sem]; exact ⟨rfl, rfl⟩) ?_
  -- 1: t8 := load(30, t3); t9 := load(149, t4); t10 := call(value(F249<curve.Check>)[t8, t9]); t7 := assign(t10)
  refine W.thn (by
    simp only [go_sem]
    refine WP_pc (pc249 p s d) ent249 (by simp only [go_sem, aTarget]) rfl rfl ?_ -- call(value(F249<curve.Check>)[t8, t9])
    simp only [go_sem]
    exact ⟨rfl, rfl⟩) ?_
  refine W.seq ?_
  -- 2: t11 := move(t7); t12 := (eql, 37, t11, 0, 37); t13 := move(t12); t14 := move(t2) Gsome((2, true)); t15 := (lss, 3, t14, 1, 3) Gsome((2, true)); t16 := move(t15) Gsome((2, true)); t17 := move(t2) Gsome((5, false)); t18 := (gtr, 3, t17, 1024, 3) Gsome((5, false)); t19 := pick(t16, true, t18) Gsome((2, true)); t20 := pick(t13, t19, false)
  refine W.thnK fun K hK => ?_
  simp only [go_sem]
  refine guardW_t (fun h1 => ?_) fun h1 => ?_
  ·
    simp only [go_sem, h1]
    refine guardW_f (fun h2 => ?_) fun h2 => ?_
    ·
      simp only [go_sem, h1, h2]
      refine hK _ _ ?_
      refine W.ifB rfl (fun h3 => ?_) fun h3 => ?_ -- t20
      ·
        -- 3: t6 := assign(1)
        refine W.thn (by simp only [go_sem, h1, h2, h3]; exact ⟨rfl, rfl⟩) ?_
        refine W.ret ⟨.inr rfl, _, res1 Tryz.results247, ?_⟩
        simp only [go_sem, h1, h2, h3]
        exact Weak.of_eq (congrArg (AV.int .i64) (by (try simp only [decide_eq_true_eq, decide_eq_false_iff_not] at h1 h2 h3 ⊢); first | (rw [curErr, if_pos (by omega)]; done) | (rw [curErr, if_neg (by omega)]; done)))
      ·
        refine W.skip ?_
        -- 4: t21 := move(t7); t6 := assign(t21)
        refine W.thn (by simp only [go_sem, h1, h2, h3]; exact ⟨rfl, rfl⟩) ?_
        refine W.ret ⟨.inr rfl, _, res1 Tryz.results247, ?_⟩
        simp only [go_sem, h1, h2, h3]
        exact Weak.of_eq (congrArg (AV.int .i64) (by (try simp only [decide_eq_true_eq, decide_eq_false_iff_not] at h1 h2 h3 ⊢); first | (rw [curErr, if_pos (by omega)]; done) | (rw [curErr, if_neg (by omega)]; done)))
    ·
      simp only [go_sem, h1, h2]
      refine hK _ _ ?_
      refine W.condT rfl ?_
      -- 3: t6 := assign(1)
      refine W.thn (by simp only [go_sem, h1, h2]; exact ⟨rfl, rfl⟩) ?_
      refine W.ret ⟨.inr rfl, _, res1 Tryz.results247, ?_⟩
      simp only [go_sem, h1, h2]
      exact Weak.of_eq (congrArg (AV.int .i64) (by (try simp only [decide_eq_true_eq, decide_eq_false_iff_not] at h1 h2 ⊢); first | (rw [curErr, if_pos (by omega)]; done) | (rw [curErr, if_neg (by omega)]; done)))
  ·
    simp only [go_sem, h1]
    refine hK _ _ ?_
    refine W.condF rfl ?_
    refine W.skip ?_
    -- 4: t21 := move(t7); t6 := assign(t21)
    refine W.thn (by simp only [go_sem, h1]; exact ⟨rfl, rfl⟩) ?_
    refine W.ret ⟨.inr rfl, _, res1 Tryz.results247, ?_⟩
    simp only [go_sem, h1]
    exact Weak.of_eq (congrArg (AV.int .i64) (by (try simp only [decide_eq_true_eq, decide_eq_false_iff_not] at h1 ⊢); first | (rw [curErr, if_pos (by omega)]; done) | (rw [curErr, if_neg (by omega)]; done)))
end Go.Ab
end
section
set_option linter.unusedVariables false
set_option linter.unusedSimpArgs false
namespace Go.Ab
open Go.RowKit Go.Proofs

def curLimits (p s d rows : Int) : List Int := if curErr p s d rows = 0 then List.replicate (rows * d).toNat p else []
theorem curErr_ok {p s d rows : Int} (h : curErr p s d rows = 0) : fieldOk p = true ∧ 2 ≤ s ∧ s ≤ 10 ∧ 1 ≤ d ∧ d < s ∧ s < p ∧ 1 ≤ rows ∧ rows ≤ 1024 := by
  unfold curErr at h
  split at h
  · omega
  · rename_i h2
    have h3 : curErr0 p s d = 0 := h
    unfold curErr0 at h
    split at h
    · rename_i hf
      split at h
      · rename_i hp
        simp only [planOk, decide_eq_true_eq] at hp
        have : 1 ≤ rows ∧ rows ≤ 1024 := Classical.byContradiction fun hn => h2 ⟨h3, hn⟩
        exact ⟨hf, by omega⟩
      · omega
    · omega
theorem pc245 (p s d rows : Int) : PureCall Tryz.prog 245 [.agg [.int .i64 p], .agg [.int .i64 s, .int .i64 d], .int .i64 rows] (.tuple [ints (curLimits p s d rows), .int .i64 (curErr p s d rows)]) := by
  refine pureCall Tryz.func245 rfl Tryz.ntmps245 rfl ?_
  simp only [go_sem]
  -- 0: t3 := box(30, t0); t4 := box(149, t1); t6 := assign(slice(none, 0, 0)); t7 := assign(0)
  refine W.thn (by simp only [go_sem]; exact ⟨rfl, rfl⟩) ?_
  refine W.seq ?_
  -- 1: t10 := load(30, t3); t11 := load(149, t4); t12 := move(t2); t13 := call(value(F247<curve.check>)[t10, t11, t12]); t8 := assign(t13)
  refine W.thn (by
    simp only [go_sem]
    refine WP_pc (pc247 p s d rows) ent247 (by simp only [go_sem, aTarget]) rfl rfl ?_ -- call(value(F247<curve.check>)[t10, t11, t12])
    simp only [go_sem]
    exact ⟨rfl, rfl⟩) ?_
  -- 2: t14 := move(t8); t15 := (neq, 37, t14, 0, 37)
  refine W.thn (by simp only [go_sem]; exact ⟨rfl, rfl⟩) ?_
  refine W.ifNB rfl (fun h1 => ?_) fun h1 => ?_ -- t15
  ·
    -- 3: t16 := move(t8); t6 := assign(slice(none, 0, 0)); t7 := assign(t16)
    refine W.thn (by simp only [go_sem, h1]; exact ⟨rfl, rfl⟩) ?_
    refine W.ret ⟨.inr rfl, _, res2 Tryz.results245, ?_⟩
    simp only [go_sem, h1]
    have e9 : curErr p s d rows ≠ 0 := by simpa using h1
    simp only [curLimits, e9, if_false]
    exact Weak.tuple (.cons (Weak.nilSlice 1) (.cons (Weak.refl _) .nil))
  ·
    have e0 : curErr p s d rows = 0 := by simpa using h1
    have hr := curErr_ok e0
    have hm1 : rows * d ≤ 1024 * 9 := Int.mul_le_mul (by omega) (by omega) (by omega) (by omega)
    have hm0 : 0 ≤ rows * d := Int.mul_nonneg (by omega) (by omega)
    obtain ⟨n, hn⟩ : ∃ n : Nat, rows * d = n := ⟨(rows * d).toNat, by omega⟩
    have w2 : IntKind.i64.wrap (n : Int) = n := w64 (by omega)
    refine W.skip ?_
    -- 4: t9 := assign(slice(none, 0, 0))
    refine W.thn (by simp only [go_sem, h1]; exact ⟨rfl, rfl⟩) ?_
    refine W.seq ?_
    -- 5: t17 := move(t2); t18 := fieldAddr(149, t4, 1); t19 := load(3, t18); t20 := (mul, 3, t17, t19, 3); t21 := move(0)
    refine W.thn (by simp only [go_sem, h1, hn, w2]; exact ⟨rfl, rfl⟩) ?_
    refine W.block ?_
    refine W.le (Le.slice0 (d := 9) 1 (by simp only [go_sem])) ?_
    refine W.loopEL [3, 9, 20, 21] 3 (Nat.zero_le _) (fun m l H => ∃ j : Nat, j ≤ n ∧ m = n - j ∧ l = [(3, .ptr 0 0 1), (9, .slice 1 2 0 j j none), (20, .int .i64 n), (21, .int .i64 j)] ∧ H = [.blk [.int .i64 p] 1 false, .blk [.int .i64 s, .int .i64 d] 2 false, .blk ((List.replicate j p).map (AV.int .i64)) 0 false]) ⟨n, 0, by omega, by omega, by simp only [go_sem]; rfl, by simp⟩ fun m l H ⟨j, hj, hm, e1, e2⟩ => ?_
    subst e1; subst e2
    -- 6: t22 := (lss, 3, t21, t20, 3)
    refine W.thn (by simp only [go_sem, h1]; exact ⟨rfl, rfl⟩) ?_
    refine W.seq ?_
    refine W.ifB rfl (fun h2 => ?_) fun h2 => ?_ -- t22
    ·
      simp only [decide_eq_true_eq] at h2
      have hj1 : (j + 1) * 8 ≤ 140737488355328 := by omega
      refine W.skip ?_
      refine W.seq ?_
      refine W.block ?_
      -- 7: t23 := move(t9); t24 := fieldAddr(30, t3, 0); t25 := load(3, t24); t26 := buildSlice(33, 1, [(0, t25)]); t27 := call(builtin(append)[t23, t26]); t9 := assign(t27)
      refine W.lst (by simp only [go_sem, wrapS (show j < 4611686018427387904 by omega), List.length_replicate, hj1, Nat.succ_ne_zero, rep_next]; exact ⟨rfl, rfl⟩) ?_
      -- 8: t28 := (add, 3, t21, 1, 3); t21 := move(t28)
      refine W.lst (by simp only [go_sem, wrapS (show j < 4611686018427387904 by omega), List.length_replicate, hj1, Nat.succ_ne_zero, rep_next]; exact ⟨rfl, rfl⟩) ?_
      refine ⟨_, n - (j + 1), rfl, by omega, by simp, j + 1, by omega, by omega, by simp only [go_sem], by simp [cv_map_int, List.replicate_succ]⟩
    ·
      refine W.exit ?_ -- to 0
      -- 9: t29 := move(t9); t6 := assign(t29); t7 := assign(0)
      refine W.thn (by simp only [go_sem]; exact ⟨rfl, rfl⟩) ?_
      refine W.ret ⟨.inr rfl, _, res2 Tryz.results245, ?_⟩
      simp only [go_sem]
      simp only [decide_eq_false_iff_not] at h2
      have hj' : j = n := by omega
      have hl' : curLimits p s d rows = List.replicate j p := by rw [curLimits, if_pos e0, hn, hj']; simp
      rw [hl', e0]
      refine Weak.tuple (.cons ?_ (.cons (Weak.refl _) .nil))
      split
      · rename_i h0; rw [h0]; exact Weak.vals _ _ _
      · rw [List.take_of_length_le (by simp), pv_map_int (k := 5)]
        exact Weak.vals _ _ _
theorem pc243 (p s d rows : Int) : PureCall Tryz.prog 243 [.agg [.int .i64 s, .int .i64 d], .agg [.int .i64 p], .int .i64 rows] (.tuple [ints (curLimits p s d rows), .int .i64 (curErr p s d rows)]) := by
  refine pureCall Tryz.func243 rfl Tryz.ntmps243 rfl ?_
  simp only [go_sem]
  -- 0: t3 := box(207, t0); t4 := box(30, t1); t6 := assign(slice(none, 0, 0)); t7 := assign(0)
  refine W.thn (by simp only [go_sem]; exact ⟨rfl, rfl⟩) ?_
  -- 1: t8 := load(30, t4); t9 := load(207, t3); t10 := move(t2); t11 := call(value(F245<curve.Limits>)[t8, t9, t10]); t12 := extract(t11, 0); t13 := extract(t11, 1); t6 := assign(t12); t7 := assign(t13)
  refine W.thn (by
    simp only [go_sem]
    refine WP_pc (pc245 p s d rows) ent245 (by simp only [go_sem, aTarget]) rfl rfl ?_ -- call(value(F245<curve.Limits>)[t8, t9, t10])
    simp only [go_sem]
    exact ⟨rfl, rfl⟩) ?_
  refine W.ret ⟨.inr rfl, _, res2 Tryz.results243, ?_⟩
  simp only [go_sem]
  exact Weak.refl _
end Go.Ab
end
section
set_option linter.unusedVariables false
set_option linter.unusedSimpArgs false
namespace Go.Ab
open Go.RowKit Go.Proofs

def codErr0 (p s d g : Int) : Int := if fieldOk p = true then (if 2 ≤ s ∧ s ≤ 10 ∧ s < p ∧ 1 ≤ d ∧ 1 ≤ g ∧ d ≤ s ∧ g ≤ s ∧ 2 * g + d - 1 ≤ s then 0 else 1) else 9
def codErr (p s d g n : Int) : Int := if codErr0 p s d g = 0 ∧ ¬ (1 ≤ n ∧ n ≤ 1024) then 1 else codErr0 p s d g
theorem pc226 (p s d g : Int) : PureCall Tryz.prog 226 [.agg [.int .i64 p], .agg [.int .i64 s, .int .i64 d, .int .i64 g]] (.int .i64 (codErr0 p s d g)) := by
  refine pureCall Tryz.func226 rfl Tryz.ntmps226 rfl ?_
  simp only [go_sem]
  -- 0: t2 := box(30, t0); t3 := box(143, t1); t4 := assign(0)
  refine W.thn (by simp only [go_sem]; exact ⟨rfl, rfl⟩) ?_
  refine W.seq ?_
  -- 1: t8 := load(30, t2); t9 := call(value(F126<residue.Of>)[t8]); t7 := move(t9); t10 := extract(t7, 0); t11 := extract(t7, 1); t5 := assign(t10); t6 := assign(t11)
  refine W.thn (by
    simp only [go_sem]
    refine WP_pc (pc126 p) ent126 (by simp only [go_sem, aTarget]) rfl rfl ?_ -- call(value(F126<residue.Of>)[t8])
    simp only [go_sem]
    exact ⟨rfl, rfl⟩) ?_
  -- 2: t12 := move(t6); t13 := unOp(not, 4, t12)
  refine W.thn (by simp only [go_sem]; exact ⟨rfl, rfl⟩) ?_
  refine W.ifNB rfl (fun h1 => ?_) fun h1 => ?_ -- t13
  ·
    -- 3: t4 := assign(9)
    refine W.thn (by simp only [go_sem, h1]; exact ⟨rfl, rfl⟩) ?_
    refine W.ret ⟨.inr rfl, _, res1 Tryz.results226, ?_⟩
    simp only [go_sem, h1]
    exact Weak.of_eq (congrArg (AV.int .i64) (by (try simp only [decide_eq_true_eq, decide_eq_false_iff_not, w64eq] at h1 ⊢); first | (rw [codErr0, if_neg (by rw [h1]; simp)]; done) | (rw [codErr0, if_pos h1, if_pos (by omega)]; done) | (rw [codErr0, if_pos h1, if_neg (by omega)]; done)))
  ·
    refine W.skip ?_
    refine W.seq ?_
    -- 4: t14 := fieldAddr(143, t3, 0); t15 := load(3, t14); t16 := (lss, 3, t15, 2, 3); t17 := move(t16); t18 := fieldAddr(143, t3, 0) Gsome((3, false)); t19 := load(3, t18) Gsome((3, false)); t20 := (gtr, 3, t19, 10, 3) Gsome((3, false)); t21 := pick(t17, true, t20); t22 := move(t21); t23 := fieldAddr(143, t3, 0) Gsome((8, false)); t24 := load(3, t23) Gsome((8, false)); t25 := fieldAddr(30, t2, 0) Gsome((8, false)); t26 := load(3, t25) Gsome((8, false)); t27 := (geq, 3, t24, t26, 3) Gsome((8, false)); t28 := pick(t22, true, t27); t29 := move(t28); t30 := fieldAddr(143, t3, 1) Gsome((15, false)); t31 := load(3, t30) Gsome((15, false)); t32 := (lss, 3, t31, 1, 3) Gsome((15, false)); t33 := pick(t29, true, t32); t34 := move(t33); t35 := fieldAddr(143, t3, 2) Gsome((20, false)); t36 := load(3, t35) Gsome((20, false)); t37 := (lss, 3, t36, 1, 3) Gsome((20, false)); t38 := pick(t34, true, t37); t39 := move(t38); t40 := fieldAddr(143, t3, 1) Gsome((25, false)); t41 := load(3, t40) Gsome((25, false)); t42 := fieldAddr(143, t3, 0) Gsome((25, false)); t43 := load(3, t42) Gsome((25, false)); t44 := (gtr, 3, t41, t43, 3) Gsome((25, false)); t45 := pick(t39, true, t44); t46 := move(t45); t47 := fieldAddr(143, t3, 2) Gsome((32, false)); t48 := load(3, t47) Gsome((32, false)); t49 := fieldAddr(143, t3, 0) Gsome((32, false)); t50 := load(3, t49) Gsome((32, false)); t51 := (gtr, 3, t48, t50, 3) Gsome((32, false)); t52 := pick(t46, true, t51); t53 := move(t52); t54 := fieldAddr(143, t3, 2) Gsome((39, false)); t55 := load(3, t54) Gsome((39, false)); t56 := (mul, 3, 2, t55, 3) Gsome((39, false)); t57 := fieldAddr(143, t3, 1) Gsome((39, false)); t58 := load(3, t57) Gsome((39, false)); t59 := (add, 3, t56, t58, 3) Gsome((39, false)); t60 := (sub, 3, t59, 1, 3) Gsome((39, false)); t61 := fieldAddr(143, t3, 0) Gsome((39, false)); t62 := load(3, t61) Gsome((39, false)); t63 := (gtr, 3, t60, t62, 3) Gsome((39, false)); t64 := pick(t53, true, t63)
    refine W.thnK fun K hK => ?_
    simp only [go_sem, h1]
    refine guardW_f (fun h2 => ?_) fun h2 => ?_
    ·
      simp only [go_sem, h1, h2]
      refine guardW_f (fun h3 => ?_) fun h3 => ?_
      ·
        simp only [go_sem, h1, h2, h3]
        refine guardW_f (fun h4 => ?_) fun h4 => ?_
        ·
          simp only [go_sem, h1, h2, h3, h4]
          refine guardW_f (fun h5 => ?_) fun h5 => ?_
          ·
            simp only [go_sem, h1, h2, h3, h4, h5]
            refine guardW_f (fun h6 => ?_) fun h6 => ?_
            ·
              simp only [go_sem, h1, h2, h3, h4, h5, h6]
              refine guardW_f (fun h7 => ?_) fun h7 => ?_
              ·
                simp only [go_sem, h1, h2, h3, h4, h5, h6, h7]
                refine guardW_f (fun h8 => ?_) fun h8 => ?_
                ·
                  simp only [go_sem, h1, h2, h3, h4, h5, h6, h7, h8]
                  refine hK _ _ ?_
                  refine W.ifB rfl (fun h9 => ?_) fun h9 => ?_ -- t64
                  ·
                    -- 5: t4 := assign(1)
                    refine W.thn (by simp only [go_sem, h1, h2, h3, h4, h5, h6, h7, h8, h9]; exact ⟨rfl, rfl⟩) ?_
                    refine W.ret ⟨.inr rfl, _, res1 Tryz.results226, ?_⟩
                    simp only [go_sem, h1, h2, h3, h4, h5, h6, h7, h8, h9]
                    exact Weak.of_eq (congrArg (AV.int .i64) (by (try simp only [decide_eq_true_eq, decide_eq_false_iff_not, w64eq] at h1 h2 h3 h4 h5 h6 h7 h8 h9 ⊢); first | (rw [codErr0, if_neg (by rw [h1]; simp)]; done) | (rw [codErr0, if_pos h1, if_pos (by omega)]; done) | (rw [codErr0, if_pos h1, if_neg (by omega)]; done)))
                  ·
                    refine W.skip ?_
                    -- 6: t4 := assign(0)
                    refine W.thn (by simp only [go_sem, h1, h2, h3, h4, h5, h6, h7, h8, h9]; exact ⟨rfl, rfl⟩) ?_
                    refine W.ret ⟨.inr rfl, _, res1 Tryz.results226, ?_⟩
                    simp only [go_sem, h1, h2, h3, h4, h5, h6, h7, h8, h9]
                    exact Weak.of_eq (congrArg (AV.int .i64) (by (try simp only [decide_eq_true_eq, decide_eq_false_iff_not, w64eq] at h1 h2 h3 h4 h5 h6 h7 h8 h9 ⊢); first | (rw [codErr0, if_neg (by rw [h1]; simp)]; done) | (rw [codErr0, if_pos h1, if_pos (by omega)]; done) | (rw [codErr0, if_pos h1, if_neg (by omega)]; done)))
                ·
                  simp only [go_sem, h1, h2, h3, h4, h5, h6, h7, h8]
                  refine hK _ _ ?_
                  refine W.condT rfl ?_
                  -- 5: t4 := assign(1)
                  refine W.thn (by simp only [go_sem, h1, h2, h3, h4, h5, h6, h7, h8]; exact ⟨rfl, rfl⟩) ?_
                  refine W.ret ⟨.inr rfl, _, res1 Tryz.results226, ?_⟩
                  simp only [go_sem, h1, h2, h3, h4, h5, h6, h7, h8]
                  exact Weak.of_eq (congrArg (AV.int .i64) (by (try simp only [decide_eq_true_eq, decide_eq_false_iff_not, w64eq] at h1 h2 h3 h4 h5 h6 h7 h8 ⊢); first | (rw [codErr0, if_neg (by rw [h1]; simp)]; done) | (rw [codErr0, if_pos h1, if_pos (by omega)]; done) | (rw [codErr0, if_pos h1, if_neg (by omega)]; done)))
              ·
                simp only [go_sem, h1, h2, h3, h4, h5, h6, h7]
                refine hK _ _ ?_
                refine W.condT rfl ?_
                -- 5: t4 := assign(1)
                refine W.thn (by simp only [go_sem, h1, h2, h3, h4, h5, h6, h7]; exact ⟨rfl, rfl⟩) ?_
                refine W.ret ⟨.inr rfl, _, res1 Tryz.results226, ?_⟩
                simp only [go_sem, h1, h2, h3, h4, h5, h6, h7]
                exact Weak.of_eq (congrArg (AV.int .i64) (by (try simp only [decide_eq_true_eq, decide_eq_false_iff_not, w64eq] at h1 h2 h3 h4 h5 h6 h7 ⊢); first | (rw [codErr0, if_neg (by rw [h1]; simp)]; done) | (rw [codErr0, if_pos h1, if_pos (by omega)]; done) | (rw [codErr0, if_pos h1, if_neg (by omega)]; done)))
            ·
              simp only [go_sem, h1, h2, h3, h4, h5, h6]
              refine hK _ _ ?_
              refine W.condT rfl ?_
              -- 5: t4 := assign(1)
              refine W.thn (by simp only [go_sem, h1, h2, h3, h4, h5, h6]; exact ⟨rfl, rfl⟩) ?_
              refine W.ret ⟨.inr rfl, _, res1 Tryz.results226, ?_⟩
              simp only [go_sem, h1, h2, h3, h4, h5, h6]
              exact Weak.of_eq (congrArg (AV.int .i64) (by (try simp only [decide_eq_true_eq, decide_eq_false_iff_not, w64eq] at h1 h2 h3 h4 h5 h6 ⊢); first | (rw [codErr0, if_neg (by rw [h1]; simp)]; done) | (rw [codErr0, if_pos h1, if_pos (by omega)]; done) | (rw [codErr0, if_pos h1, if_neg (by omega)]; done)))
          ·
            simp only [go_sem, h1, h2, h3, h4, h5]
            refine hK _ _ ?_
            refine W.condT rfl ?_
            -- 5: t4 := assign(1)
            refine W.thn (by simp only [go_sem, h1, h2, h3, h4, h5]; exact ⟨rfl, rfl⟩) ?_
            refine W.ret ⟨.inr rfl, _, res1 Tryz.results226, ?_⟩
            simp only [go_sem, h1, h2, h3, h4, h5]
            exact Weak.of_eq (congrArg (AV.int .i64) (by (try simp only [decide_eq_true_eq, decide_eq_false_iff_not, w64eq] at h1 h2 h3 h4 h5 ⊢); first | (rw [codErr0, if_neg (by rw [h1]; simp)]; done) | (rw [codErr0, if_pos h1, if_pos (by omega)]; done) | (rw [codErr0, if_pos h1, if_neg (by omega)]; done)))
        ·
          simp only [go_sem, h1, h2, h3, h4]
          refine hK _ _ ?_
          refine W.condT rfl ?_
          -- 5: t4 := assign(1)
          refine W.thn (by simp only [go_sem, h1, h2, h3, h4]; exact ⟨rfl, rfl⟩) ?_
          refine W.ret ⟨.inr rfl, _, res1 Tryz.results226, ?_⟩
          simp only [go_sem, h1, h2, h3, h4]
          exact Weak.of_eq (congrArg (AV.int .i64) (by (try simp only [decide_eq_true_eq, decide_eq_false_iff_not, w64eq] at h1 h2 h3 h4 ⊢); first | (rw [codErr0, if_neg (by rw [h1]; simp)]; done) | (rw [codErr0, if_pos h1, if_pos (by omega)]; done) | (rw [codErr0, if_pos h1, if_neg (by omega)]; done)))
      ·
        simp only [go_sem, h1, h2, h3]
        refine hK _ _ ?_
        refine W.condT rfl ?_
        -- 5: t4 := assign(1)
        refine W.thn (by simp only [go_sem, h1, h2, h3]; exact ⟨rfl, rfl⟩) ?_
        refine W.ret ⟨.inr rfl, _, res1 Tryz.results226, ?_⟩
        simp only [go_sem, h1, h2, h3]
        exact Weak.of_eq (congrArg (AV.int .i64) (by (try simp only [decide_eq_true_eq, decide_eq_false_iff_not, w64eq] at h1 h2 h3 ⊢); first | (rw [codErr0, if_neg (by rw [h1]; simp)]; done) | (rw [codErr0, if_pos h1, if_pos (by omega)]; done) | (rw [codErr0, if_pos h1, if_neg (by omega)]; done)))
    ·
      simp only [go_sem, h1, h2]
      refine hK _ _ ?_
      refine W.condT rfl ?_
      -- 5: t4 := assign(1)
      refine W.thn (by simp only [go_sem, h1, h2]; exact ⟨rfl, rfl⟩) ?_
      refine W.ret ⟨.inr rfl, _, res1 Tryz.results226, ?_⟩
      simp only [go_sem, h1, h2]
      exact Weak.of_eq (congrArg (AV.int .i64) (by (try simp only [decide_eq_true_eq, decide_eq_false_iff_not, w64eq] at h1 h2 ⊢); first | (rw [codErr0, if_neg (by rw [h1]; simp)]; done) | (rw [codErr0, if_pos h1, if_pos (by omega)]; done) | (rw [codErr0, if_pos h1, if_neg (by omega)]; done)))
theorem pc222 (p s d g n : Int) : PureCall Tryz.prog 222 [.agg [.int .i64 p], .agg [.int .i64 s, .int .i64 d, .int .i64 g], .int .i64 n] (.int .i64 (codErr p s d g n)) := by
  refine pureCall Tryz.func222 rfl Tryz.ntmps222 rfl ?_
  simp only [go_sem]
  -- 0: t3 := box(30, t0); t4 := box(143, t1); t6 := assign(0)
  refine W.thn (by simp only [go_sem]; exact ⟨rfl, rfl⟩) ?_
  -- 1: t8 := load(30, t3); t9 := load(143, t4); t10 := call(value(F226<coded.Check>)[t8, t9]); t7 := assign(t10)
  refine W.thn (by
    simp only [go_sem]
    refine WP_pc (pc226 p s d g) ent226 (by simp only [go_sem, aTarget]) rfl rfl ?_ -- call(value(F226<coded.Check>)[t8, t9])
    simp only [go_sem]
    exact ⟨rfl, rfl⟩) ?_
  refine W.seq ?_
  -- 2: t11 := move(t7); t12 := (eql, 37, t11, 0, 37); t13 := move(t12); t14 := move(t2) Gsome((2, true)); t15 := (lss, 3, t14, 1, 3) Gsome((2, true)); t16 := move(t15) Gsome((2, true)); t17 := move(t2) Gsome((5, false)); t18 := (gtr, 3, t17, 1024, 3) Gsome((5, false)); t19 := pick(t16, true, t18) Gsome((2, true)); t20 := pick(t13, t19, false)
  refine W.thnK fun K hK => ?_
  simp only [go_sem]
  refine guardW_t (fun h1 => ?_) fun h1 => ?_
  ·
    simp only [go_sem, h1]
    refine guardW_f (fun h2 => ?_) fun h2 => ?_
    ·
      simp only [go_sem, h1, h2]
      refine hK _ _ ?_
      refine W.ifB rfl (fun h3 => ?_) fun h3 => ?_ -- t20
      ·
        -- 3: t6 := assign(1)
        refine W.thn (by simp only [go_sem, h1, h2, h3]; exact ⟨rfl, rfl⟩) ?_
        refine W.ret ⟨.inr rfl, _, res1 Tryz.results222, ?_⟩
        simp only [go_sem, h1, h2, h3]
        exact Weak.of_eq (congrArg (AV.int .i64) (by (try simp only [decide_eq_true_eq, decide_eq_false_iff_not] at h1 h2 h3 ⊢); first | (rw [codErr, if_pos (by omega)]; done) | (rw [codErr, if_neg (by omega)]; done)))
      ·
        refine W.skip ?_
        -- 4: t21 := move(t7); t6 := assign(t21)
        refine W.thn (by simp only [go_sem, h1, h2, h3]; exact ⟨rfl, rfl⟩) ?_
        refine W.ret ⟨.inr rfl, _, res1 Tryz.results222, ?_⟩
        simp only [go_sem, h1, h2, h3]
        exact Weak.of_eq (congrArg (AV.int .i64) (by (try simp only [decide_eq_true_eq, decide_eq_false_iff_not] at h1 h2 h3 ⊢); first | (rw [codErr, if_pos (by omega)]; done) | (rw [codErr, if_neg (by omega)]; done)))
    ·
      simp only [go_sem, h1, h2]
      refine hK _ _ ?_
      refine W.condT rfl ?_
      -- 3: t6 := assign(1)
      refine W.thn (by simp only [go_sem, h1, h2]; exact ⟨rfl, rfl⟩) ?_
      refine W.ret ⟨.inr rfl, _, res1 Tryz.results222, ?_⟩
      simp only [go_sem, h1, h2]
      exact Weak.of_eq (congrArg (AV.int .i64) (by (try simp only [decide_eq_true_eq, decide_eq_false_iff_not] at h1 h2 ⊢); first | (rw [codErr, if_pos (by omega)]; done) | (rw [codErr, if_neg (by omega)]; done)))
  ·
    simp only [go_sem, h1]
    refine hK _ _ ?_
    refine W.condF rfl ?_
    refine W.skip ?_
    -- 4: t21 := move(t7); t6 := assign(t21)
    refine W.thn (by simp only [go_sem, h1]; exact ⟨rfl, rfl⟩) ?_
    refine W.ret ⟨.inr rfl, _, res1 Tryz.results222, ?_⟩
    simp only [go_sem, h1]
    exact Weak.of_eq (congrArg (AV.int .i64) (by (try simp only [decide_eq_true_eq, decide_eq_false_iff_not] at h1 ⊢); first | (rw [codErr, if_pos (by omega)]; done) | (rw [codErr, if_neg (by omega)]; done)))
end Go.Ab
end
section
set_option linter.unusedVariables false
set_option linter.unusedSimpArgs false
namespace Go.Ab
open Go.RowKit Go.Proofs

def codLimits (p s d g n : Int) : List Int := if codErr p s d g n = 0 then List.replicate (n * d).toNat p else []
theorem codErr_ok {p s d g n : Int} (h : codErr p s d g n = 0) : fieldOk p = true ∧ 2 ≤ s ∧ s ≤ 10 ∧ s < p ∧ 1 ≤ d ∧ 1 ≤ g ∧ d ≤ s ∧ g ≤ s ∧ 2 * g + d - 1 ≤ s ∧ 1 ≤ n ∧ n ≤ 1024 := by
  unfold codErr at h
  split at h
  · omega
  · rename_i h2
    have h3 : codErr0 p s d g = 0 := h
    unfold codErr0 at h
    split at h
    · rename_i hf
      split at h
      · rename_i hp
        have : 1 ≤ n ∧ n ≤ 1024 := Classical.byContradiction fun hn => h2 ⟨h3, hn⟩
        exact ⟨hf, by omega⟩
      · omega
    · omega
theorem pc220 (p s d g rows : Int) : PureCall Tryz.prog 220 [.agg [.int .i64 p], .agg [.int .i64 s, .int .i64 d, .int .i64 g], .int .i64 rows] (.tuple [ints (codLimits p s d g rows), .int .i64 (codErr p s d g rows)]) := by
  refine pureCall Tryz.func220 rfl Tryz.ntmps220 rfl ?_
  simp only [go_sem]
  -- 0: t3 := box(30, t0); t4 := box(143, t1); t6 := assign(slice(none, 0, 0)); t7 := assign(0)
  refine W.thn (by simp only [go_sem]; exact ⟨rfl, rfl⟩) ?_
  refine W.seq ?_
  -- 1: t10 := load(30, t3); t11 := load(143, t4); t12 := move(t2); t13 := call(value(F222<coded.check>)[t10, t11, t12]); t8 := assign(t13)
  refine W.thn (by
    simp only [go_sem]
    refine WP_pc (pc222 p s d g rows) ent222 (by simp only [go_sem, aTarget]) rfl rfl ?_ -- call(value(F222<coded.check>)[t10, t11, t12])
    simp only [go_sem]
    exact ⟨rfl, rfl⟩) ?_
  -- 2: t14 := move(t8); t15 := (neq, 37, t14, 0, 37)
  refine W.thn (by simp only [go_sem]; exact ⟨rfl, rfl⟩) ?_
  refine W.ifNB rfl (fun h1 => ?_) fun h1 => ?_ -- t15
  ·
    -- 3: t16 := move(t8); t6 := assign(slice(none, 0, 0)); t7 := assign(t16)
    refine W.thn (by simp only [go_sem, h1]; exact ⟨rfl, rfl⟩) ?_
    refine W.ret ⟨.inr rfl, _, res2 Tryz.results220, ?_⟩
    simp only [go_sem, h1]
    have e9 : codErr p s d g rows ≠ 0 := by simpa using h1
    simp only [codLimits, e9, if_false]
    exact Weak.tuple (.cons (Weak.nilSlice 1) (.cons (Weak.refl _) .nil))
  ·
    have e0 : codErr p s d g rows = 0 := by simpa using h1
    have hr := codErr_ok e0
    have hm1 : rows * d ≤ 1024 * 10 := Int.mul_le_mul (by omega) (by omega) (by omega) (by omega)
    have hm0 : 0 ≤ rows * d := Int.mul_nonneg (by omega) (by omega)
    obtain ⟨n, hn⟩ : ∃ n : Nat, rows * d = n := ⟨(rows * d).toNat, by omega⟩
    have w2 : IntKind.i64.wrap (n : Int) = n := w64 (by omega)
    refine W.skip ?_
    -- 4: t9 := assign(slice(none, 0, 0))
    refine W.thn (by simp only [go_sem, h1]; exact ⟨rfl, rfl⟩) ?_
    refine W.seq ?_
    -- 5: t17 := move(t2); t18 := fieldAddr(143, t4, 1); t19 := load(3, t18); t20 := (mul, 3, t17, t19, 3); t21 := move(0)
    refine W.thn (by simp only [go_sem, h1, hn, w2]; exact ⟨rfl, rfl⟩) ?_
    refine W.block ?_
    refine W.le (Le.slice0 (d := 9) 1 (by simp only [go_sem])) ?_
    refine W.loopEL [3, 9, 20, 21] 3 (Nat.zero_le _) (fun m l H => ∃ j : Nat, j ≤ n ∧ m = n - j ∧ l = [(3, .ptr 0 0 1), (9, .slice 1 2 0 j j none), (20, .int .i64 n), (21, .int .i64 j)] ∧ H = [.blk [.int .i64 p] 1 false, .blk [.int .i64 s, .int .i64 d, .int .i64 g] 3 false, .blk ((List.replicate j p).map (AV.int .i64)) 0 false]) ⟨n, 0, by omega, by omega, by simp only [go_sem]; rfl, by simp⟩ fun m l H ⟨j, hj, hm, e1, e2⟩ => ?_
    subst e1; subst e2
    -- 6: t22 := (lss, 3, t21, t20, 3)
    refine W.thn (by simp only [go_sem, h1]; exact ⟨rfl, rfl⟩) ?_
    refine W.seq ?_
    refine W.ifB rfl (fun h2 => ?_) fun h2 => ?_ -- t22
    ·
      simp only [decide_eq_true_eq] at h2
      have hj1 : (j + 1) * 8 ≤ 140737488355328 := by omega
      refine W.skip ?_
      refine W.seq ?_
      refine W.block ?_
      -- 7: t23 := move(t9); t24 := fieldAddr(30, t3, 0); t25 := load(3, t24); t26 := buildSlice(33, 1, [(0, t25)]); t27 := call(builtin(append)[t23, t26]); t9 := assign(t27)
      refine W.lst (by simp only [go_sem, wrapS (show j < 4611686018427387904 by omega), List.length_replicate, hj1, Nat.succ_ne_zero, rep_next]; exact ⟨rfl, rfl⟩) ?_
      -- 8: t28 := (add, 3, t21, 1, 3); t21 := move(t28)
      refine W.lst (by simp only [go_sem, wrapS (show j < 4611686018427387904 by omega), List.length_replicate, hj1, Nat.succ_ne_zero, rep_next]; exact ⟨rfl, rfl⟩) ?_
      refine ⟨_, n - (j + 1), rfl, by omega, by simp, j + 1, by omega, by omega, by simp only [go_sem], by simp [cv_map_int, List.replicate_succ]⟩
    ·
      refine W.exit ?_ -- to 0
      -- 9: t29 := move(t9); t6 := assign(t29); t7 := assign(0)
      refine W.thn (by simp only [go_sem]; exact ⟨rfl, rfl⟩) ?_
      refine W.ret ⟨.inr rfl, _, res2 Tryz.results220, ?_⟩
      simp only [go_sem]
      simp only [decide_eq_false_iff_not] at h2
      have hj' : j = n := by omega
      have hl' : codLimits p s d g rows = List.replicate j p := by rw [codLimits, if_pos e0, hn, hj']; simp
      rw [hl', e0]
      refine Weak.tuple (.cons ?_ (.cons (Weak.refl _) .nil))
      split
      · rename_i h0; rw [h0]; exact Weak.vals _ _ _
      · rw [List.take_of_length_le (by simp), pv_map_int (k := 5)]
        exact Weak.vals _ _ _
end Go.Ab
end
section
set_option linter.unusedVariables false
set_option linter.unusedSimpArgs false
namespace Go.Ab
open Go.RowKit Go.Proofs

theorem WP_pcn {P : Program} {rest : List Item} {n : Nat} {l : List (Nat × AV)} {H : Heap} {K : List AV → Heap → Prop} {dst : Option Tmp} {ty : TypeId} {pos : String} {after : Array Edge} {g : Option Tmp} {f : Operand} {args : Array Operand} {tys : Array TypeId} {r : AV} {fi : FuncId} {xs : List AV} (hc : PureCall P fi xs r) (hf : enters P fi = true) (ht : aTarget (E n l) ⟨.value f, args, tys⟩ = some (fi, xs)) (hp : pureBs xs = true) (hr : r.pureB = true) (h : WP P rest (putA (E n l) dst r) H K) :
    WP P (⟨⟨dst, .call ⟨.value f, args, tys⟩, ty, pos, after, none⟩, .n, g⟩ :: rest) (E n l) H K := WP_call_n ht hf hc hp hr h
theorem pc218 (p s d g rows : Int) (hg : 1 ≤ g ∧ g ≤ 1000) (hr : 0 ≤ rows ∧ rows ≤ 100000) : PureCall Tryz.prog 218 [.agg [.int .i64 s, .int .i64 d, .int .i64 g], .agg [.int .i64 p], .int .i64 rows] (.tuple [ints (codLimits p s d g ((rows + g - 1) / g)), .int .i64 (codErr p s d g ((rows + g - 1) / g))]) := by
  refine pureCall Tryz.func218 rfl Tryz.ntmps218 rfl ?_
  simp only [go_sem]
  -- 0: t3 := box(142, t0); t4 := box(30, t1); t6 := assign(slice(none, 0, 0)); t7 := assign(0)
  refine W.thn (by simp only [go_sem]; exact ⟨rfl, rfl⟩) ?_
  -- 1: t8 := load(30, t4); t9 := load(142, t3); t10 := load(142, t3); t11 := move(t2); t12 := call(value(F114<scheme.groups).units>)[t10, t11]); t13 := call(value(F220<coded.Limits>)[t8, t9, t12]); t14 := extract(t13, 0); t15 := extract(t13, 1); t6 := assign(t14); t7 := assign(t15)
  refine W.drawThn [0, 1, 2, 3, 4, 5, 6, 7, 8, 9] [.n, .n, .n, .n, .n, .n, .n, .n, .n, .n] [[], [], [], [], [2, 3], [0, 1, 2, 3, 4], [0, 1, 2, 3, 4, 5], [0, 1, 2, 3, 4, 5], [0, 1, 2, 3, 4, 5, 6, 7], [0, 1, 2, 3, 4, 5, 6, 7, 8]] rfl (by decide +kernel) (by
    simp only [go_sem]
    refine WP_pcn (pc114 s d g rows hg hr) ent114 (by simp only [go_sem, aTarget]) rfl rfl ?_ -- call(value(F114<scheme.groups).units>)[t10, t11])
    simp only [go_sem]
    refine WP_pcn (pc220 p s d g ((rows + g - 1) / g)) ent220 (by simp only [go_sem, aTarget]) rfl rfl ?_ -- call(value(F220<coded.Limits>)[t8, t9, t12])
    simp only [go_sem]
    exact ⟨rfl, rfl⟩) ?_
  refine W.ret ⟨.inr rfl, _, res2 Tryz.results218, ?_⟩
  simp only [go_sem]
  exact Weak.refl _
end Go.Ab
end
