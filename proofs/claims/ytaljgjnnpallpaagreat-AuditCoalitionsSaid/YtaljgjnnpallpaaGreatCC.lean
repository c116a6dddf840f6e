/- Contracts of the functions: the dice. And what follows from there. -/
import Derived.Test.YtaljgjnnpallpaaGreatCB
import Derived.Test.YtaljgjnnpallpaaGreatFE
section
set_option linter.unusedVariables false
set_option linter.unusedSimpArgs false
namespace Go.Ab
open Go.RowKit Go.Proofs

def diceB (b : Bool) (s : List Int) (k : Nat) : AObj := .blk [.vals 1 (s.map (AV.int .u8)) b, .int .i64 k] 2 false
def pickV (s : List Int) (k : Nat) (n : Int) : Int := if k < s.length then (s.getD k 0) % n else 0
def pickK (s : List Int) (k : Nat) : Nat := if k < s.length then k + 1 else k
def u8s (s : List Int) : Prop := ∀ c, c ∈ s → 0 ≤ c ∧ c < 256

theorem sc14_short (s : List Int) (b : Bool) (h : s.length ≤ 300) : SoundCall Tryz.prog 14 [.vals 1 (s.map (AV.int .u8)) b] [] (.ptr 0 0 2) [diceB b s 0] := by
  have h1 : ((s.length : Int) > 300) = False := eq_false (by omega)
  have h2 : ((300 : Int) < s.length) = False := eq_false (by omega)
  refine soundCall Tryz.func14 rfl Tryz.ntmps14 rfl ?_
  simp only [go_sem]
  -- 0: t2 := assign(pointer(none))
  refine W.thn (by simp only [go_sem]; exact ⟨rfl, rfl⟩) ?_
  refine W.seq ?_
  -- 1: t3 := move(t0); t4 := call(builtin(len)[t3]); t5 := (gtr, 3, t4, 300, 3)
  refine W.thn (by simp only [go_sem]; exact ⟨rfl, rfl⟩) ?_
  refine W.condF (by simp only [go_sem, h1, h2]) ?_
  refine W.skip ?_
  refine W.thn (by simp only [go_sem, h1]; exact ⟨rfl, rfl⟩) ?_
  refine W.ret ⟨.inr rfl, ?_, ?_⟩
  · rw [res1 Tryz.results14]
    simp only [go_sem]
  · rfl
theorem sc14_long (s : List Int) (b : Bool) (h : 300 < s.length) (hs : s.length < 9223372036854775808) : SoundCall Tryz.prog 14 [.vals 1 (s.map (AV.int .u8)) b] [] (.ptr 0 0 2) [diceB b (s.take 300) 0] := by
  have h2 : ((300 : Int) < s.length) = True := eq_true (by omega)
  have h3 : 300 ≤ s.length := by omega
  refine soundCall Tryz.func14 rfl Tryz.ntmps14 rfl ?_
  simp only [go_sem]
  -- 0: t2 := assign(pointer(none))
  refine W.thn (by simp only [go_sem]; exact ⟨rfl, rfl⟩) ?_
  refine W.seq ?_
  -- 1: t3 := move(t0); t4 := call(builtin(len)[t3]); t5 := (gtr, 3, t4, 300, 3)
  refine W.thn (by simp only [go_sem]; exact ⟨rfl, rfl⟩) ?_
  refine W.condT (by simp only [go_sem, h2]) ?_
  refine W.lst (by simp only [go_sem, h2, h3]; exact ⟨rfl, rfl⟩) ?_
  refine W.thn (by simp only [go_sem]; exact ⟨rfl, rfl⟩) ?_
  refine W.ret ⟨.inr rfl, ?_, ?_⟩
  · rw [res1 Tryz.results14]
    simp only [go_sem]
  · simp only [diceB, List.map_take]; rfl
section
variable (b : Bool) (s : List Int) (k : Nat) (n : Int) (H : Heap) (B : Nat)
theorem sc17 (hs : u8s s) (hl : s.length ≤ 300) (hn : 0 < n ∧ n ≤ 1000000) (hb : H[B]? = some (diceB b s k)) :
    SoundCall Tryz.prog 17 [.ptr B 0 2, .int .i64 n] H (.int .i64 (pickV s k n)) (if k < s.length then H.set B (diceB b s (pickK s k)) else H) := by
  refine soundCall Tryz.func17 rfl Tryz.ntmps17 rfl ?_
  simp only [go_sem]
  unfold diceB at hb
  -- 0: t4 := assign(0)
  refine W.thn (by simp only [go_sem]; exact ⟨rfl, rfl⟩) ?_
  refine W.seq ?_
  refine W.drawThn [0, 1, 2, 3, 4, 5, 6, 7, 8, 9] [.n, .n, .n, .n, .n, .n, .n, .n, .n, .n] [[], [0], [0, 1], [0, 1, 2], [], [4], [4, 5], [4, 5, 6], [4, 5, 6, 7], [0, 1, 2, 3, 4, 5, 6, 7, 8]] rfl (by decide +kernel) (by simp only [go_sem, hb]; exact ⟨rfl, rfl⟩) ?_
  by_cases h : k < s.length
  · have h1 : ((s.length : Int) ≤ (k : Int)) = False := eq_false (by omega)
    have h4 : s[k]? = some (s.getD k 0) := by rw [List.getD_eq_getElem?_getD, List.getElem?_eq_getElem h]; rfl
    have h5 := hs _ (List.mem_of_getElem? h4)
    have e1 : pickV s k n = (s.getD k 0) % n := if_pos h
    have e2 : pickK s k = k + 1 := if_pos h
    rw [e1, e2, if_pos h]
    generalize s.getD k 0 = x at h4 h5
    refine W.condF (by simp only [go_sem, h1]) ?_
    refine W.skip ?_
    refine W.thn (by simp only [go_sem, hb, wrapS (show k < 4611686018427387904 by omega), List.length_set]; exact ⟨rfl, rfl⟩) ?_
    have hn0 : (n = 0) = False := eq_false (by omega)
    have hx1 : -9223372036854775808 ≤ x ∧ x ≤ 9223372036854775807 := by omega
    have htm : x.tmod n = x % n := Int.tmod_eq_emod_of_nonneg h5.1
    have hx2 : -9223372036854775808 ≤ x % n ∧ x % n ≤ 9223372036854775807 := by have := Int.emod_nonneg x (b := n) (by omega); have := Int.emod_lt_of_pos x hn.1; omega
    have hB : B < H.length := (List.getElem?_eq_some_iff.1 hb).1
    have hk1 : IntKind.i64.wrap (((k + 1 : Nat) : Int) - 1) = (k : Int) := by rw [show (((k + 1 : Nat) : Int) - 1) = (k : Int) by omega]; exact w64 (by omega)
    refine W.drawThn [0, 1, 2, 3, 4, 5, 6, 7, 8, 9, 10, 11, 12, 13, 14] [.n, .n, .n, .n, .n, .n, .n, .n, .n, .n, .n, .n, .n, .n, .n] [[], [0], [0, 1], [0, 1, 2], [], [4], [4, 5], [4, 5, 6], [4, 5, 6, 7], [0, 1, 2, 3, 4, 5, 6, 7, 8], [0, 1, 2, 3, 4, 5, 6, 7, 8, 9], [0, 1, 2, 3, 4, 5, 6, 7, 8, 9, 10], [], [0, 1, 2, 3, 4, 5, 6, 7, 8, 9, 10, 11, 12], [0, 1, 2, 3, 4, 5, 6, 7, 8, 9, 10, 11, 12, 13]] rfl (by decide +kernel) (by simp only [go_sem, hb, hk1, h, at0 h4, List.getElem?_set_self hB, hn0, w64 hx1, htm, w64 hx2]; exact ⟨rfl, rfl⟩) ?_
    refine W.ret ⟨.inr rfl, ?_, rfl, by simp⟩
    rw [res1 Tryz.results17]
    simp only [go_sem]
  · have h1 : ((s.length : Int) ≤ (k : Int)) = True := eq_true (by omega)
    refine W.condT (by simp only [go_sem, h1]) ?_
    refine W.thn (by simp only [go_sem]; exact ⟨rfl, rfl⟩) ?_
    refine W.ret ⟨.inr rfl, ?_, by rw [if_neg h], by rw [if_neg h]; exact Nat.le_refl _⟩
    rw [res1 Tryz.results17]
    simp only [go_sem, pickV, if_neg h]
end
end Go.Ab
end
section
set_option linter.unusedVariables false
set_option linter.unusedSimpArgs false
namespace Go.Ab
open Go.RowKit Go.Proofs

theorem pickV_ok {s : List Int} (k : Nat) (n : Int) (hs : u8s s) (hn : 0 < n) : 0 ≤ pickV s k n ∧ pickV s k n < n := by
  unfold pickV; split
  · exact ⟨Int.emod_nonneg _ (by omega), Int.emod_lt_of_pos _ hn⟩
  · exact ⟨Int.le_refl _, hn⟩
theorem sc17c (b : Bool) (s : List Int) (k : Nat) (n : Int) (T : Heap) (hs : u8s s) (hl : s.length ≤ 300) (hn : 0 < n ∧ n ≤ 1000000) :
    SoundCall Tryz.prog 17 [.ptr 0 0 2, .int .i64 n] (diceB b s k :: T) (.int .i64 (pickV s k n)) (diceB b s (pickK s k) :: T) := by
  have h := sc17 b s k n (diceB b s k :: T) 0 hs hl hn rfl
  by_cases hk : k < s.length
  · rw [if_pos hk] at h; exact h
  · rw [if_neg hk] at h; rw [pickK, if_neg hk]; exact h
/-- The scheme off the dice, and how far they have been read. -/
def schE (s : List Int) (k : Nat) : Sch × Nat :=
  if pickV s (pickK s k) 3 = 0 then (⟨1, 3 + pickV s k 4, 0, 0⟩, pickK s (pickK s k)) else
  if pickV s (pickK s k) 3 = 1 then (⟨2, 3 + pickV s k 4, 1 + pickV s (pickK s (pickK s k)) 2, 0⟩, pickK s (pickK s (pickK s k))) else
  if 3 + pickV s k 4 < 4 then (⟨3, 3 + pickV s k 4, 1 + pickV s (pickK s (pickK s k)) 2, 1⟩, pickK s (pickK s (pickK s k))) else
  if pickV s (pickK s (pickK s k)) 2 = 0 then (⟨3, 3 + pickV s k 4, 1 + pickV s (pickK s (pickK s (pickK s k))) 2, 1⟩, pickK s (pickK s (pickK s (pickK s k)))) else
  (⟨3, 3 + pickV s k 4, 1, 2⟩, pickK s (pickK s (pickK s k)))
theorem schE_eq (s : List Int) (k : Nat) : schE s k = if pickV s (pickK s k) 3 = 0 then (⟨1, 3 + pickV s k 4, 0, 0⟩, pickK s (pickK s k)) else
  if pickV s (pickK s k) 3 = 1 then (⟨2, 3 + pickV s k 4, 1 + pickV s (pickK s (pickK s k)) 2, 0⟩, pickK s (pickK s (pickK s k))) else
  if 3 + pickV s k 4 < 4 then (⟨3, 3 + pickV s k 4, 1 + pickV s (pickK s (pickK s k)) 2, 1⟩, pickK s (pickK s (pickK s k))) else
  if pickV s (pickK s (pickK s k)) 2 = 0 then (⟨3, 3 + pickV s k 4, 1 + pickV s (pickK s (pickK s (pickK s k))) 2, 1⟩, pickK s (pickK s (pickK s (pickK s k)))) else
  (⟨3, 3 + pickV s k 4, 1, 2⟩, pickK s (pickK s (pickK s k))) := rfl
theorem sc15 (b : Bool) (s : List Int) (k : Nat) (hs : u8s s) (hl : s.length ≤ 300) : SoundCall Tryz.prog 15 [.ptr 0 0 2] [diceB b s k] (schE s k).1.av [diceB b s (schE s k).2, .blk (schE s k).1.av.cells 4 false] := by
  refine soundCall Tryz.func15 rfl Tryz.ntmps15 rfl ?_
  have w0 : IntKind.i64.wrap (3 + pickV s k 4) = 3 + pickV s k 4 := by have := pickV_ok k 4 hs (by decide); exact w64 (by omega)
  have w1 : ∀ K, IntKind.i64.wrap (1 + pickV s K 2) = 1 + pickV s K 2 := fun K => by have := pickV_ok K 2 hs (by decide); exact w64 (by omega)
  simp only [go_sem]
  -- 0: t2 := alloc(27)
  refine W.thn (by simp only [go_sem, w0, w1]; exact ⟨rfl, rfl⟩) ?_
  -- 1: t4 := move(t0); t5 := call(value(F17<privatefetchplay.Dice).Pick>)[t4, 4]); t6 := (add, 3, 3, t5, 3); t3 := assign(t6)
  refine W.thn (by
    simp only [go_sem, w0, w1]
    refine WP_call_s (by simp only [go_sem, aTarget] <;> rfl) ent17 (sc17c b s _ 4 _ hs hl (by decide)) (by simp) ?_ -- call(value(F17<privatefetchplay.Dice).Pick>)[t4, 4])
    simp only [go_sem, w0, w1]
    exact ⟨rfl, rfl⟩) ?_
  refine W.seq ?_
  -- 2: t7 := move(t0); t8 := call(value(F17<privatefetchplay.Dice).Pick>)[t7, 3])
  refine W.thn (by
    simp only [go_sem, w0, w1]
    refine WP_call_s (by simp only [go_sem, aTarget] <;> rfl) ent17 (sc17c b s _ 3 _ hs hl (by decide)) (by simp) ?_ -- call(value(F17<privatefetchplay.Dice).Pick>)[t7, 3])
    simp only [go_sem, w0, w1]
    exact ⟨rfl, rfl⟩) ?_
  refine W.block ?_
  -- 3: t10 := (eql, 3, t8, 0, 3); t9 := assign(t10)
  refine W.thn (by simp only [go_sem, w0, w1]; exact ⟨rfl, rfl⟩) ?_
  refine W.ifB rfl (fun h1 => ?_) fun h1 => ?_ -- t9
  ·
    -- 4: t11 := move(t3); t12 := build(27, [(0, 1), (1, t11)]); _ := store(27, t2, t12)
    refine W.thn (by simp only [go_sem, w0, w1, h1]; exact ⟨rfl, rfl⟩) ?_
    simp only [decide_eq_true_eq, decide_eq_false_iff_not] at h1
    have e := schE_eq s k
    simp only [h1, if_true, if_false] at e
    rw [e]
    refine W.ret ⟨.inr rfl, ?_, rfl⟩
    exact resC Tryz.results15 (by simp only [go_sem, w0, w1, h1])
  ·
    -- 5: t14 := (eql, 3, t8, 1, 3); t13 := assign(t14)
    refine W.thn (by simp only [go_sem, w0, w1, h1]; exact ⟨rfl, rfl⟩) ?_
    refine W.ifB rfl (fun h2 => ?_) fun h2 => ?_ -- t13
    ·
      -- 6: t15 := move(t3); t16 := move(t0); t17 := call(value(F17<privatefetchplay.Dice).Pick>)[t16, 2]); t18 := (add, 3, 1, t17, 3); t19 := build(27, [(0, 2), (1, t15), (2, t18)]); _ := store(27, t2, t19)
      refine W.thn (by
        simp only [go_sem, w0, w1, h1, h2]
        refine WP_call_s (by simp only [go_sem, aTarget] <;> rfl) ent17 (sc17c b s _ 2 _ hs hl (by decide)) (by simp) ?_ -- call(value(F17<privatefetchplay.Dice).Pick>)[t16, 2])
        simp only [go_sem, w0, w1, h1, h2]
        exact ⟨rfl, rfl⟩) ?_
      simp only [decide_eq_true_eq, decide_eq_false_iff_not] at h1 h2
      have e := schE_eq s k
      simp only [h1, h2, if_true, if_false] at e
      rw [e]
      refine W.ret ⟨.inr rfl, ?_, rfl⟩
      exact resC Tryz.results15 (by simp only [go_sem, w0, w1, h1, h2])
    ·
      refine W.skip ?_
      refine W.seq ?_
      -- 7: t20 := move(t3); t21 := (lss, 3, t20, 4, 3); t22 := move(t21); t23 := move(t0) Gsome((2, false)); t24 := call(value(F17<privatefetchplay.Dice).Pick>)[t23, 2]) Gsome((2, false)); t25 := (eql, 3, t24, 0, 3) Gsome((2, false)); t26 := pick(t22, true, t25)
      refine W.thnK fun K hK => ?_
      simp only [go_sem, w0, w1, h1, h2]
      refine guardW_f (fun h3 => ?_) fun h3 => ?_
      ·
        simp only [go_sem, w0, w1, h1, h2, h3]
        refine WP_call_s (by simp only [go_sem, aTarget] <;> rfl) ent17 (sc17c b s _ 2 _ hs hl (by decide)) (by simp) ?_ -- call(value(F17<privatefetchplay.Dice).Pick>)[t23, 2])
        simp only [go_sem, w0, w1, h1, h2, h3]
        refine hK _ _ ?_
        refine W.ifB rfl (fun h4 => ?_) fun h4 => ?_ -- t26
        ·
          -- 8: t27 := move(t3); t28 := move(t0); t29 := call(value(F17<privatefetchplay.Dice).Pick>)[t28, 2]); t30 := (add, 3, 1, t29, 3); t31 := build(27, [(0, 3), (1, t27), (2, t30), (3, 1)]); _ := store(27, t2, t31)
          refine W.thn (by
            simp only [go_sem, w0, w1, h1, h2, h3, h4]
            refine WP_call_s (by simp only [go_sem, aTarget] <;> rfl) ent17 (sc17c b s _ 2 _ hs hl (by decide)) (by simp) ?_ -- call(value(F17<privatefetchplay.Dice).Pick>)[t28, 2])
            simp only [go_sem, w0, w1, h1, h2, h3, h4]
            exact ⟨rfl, rfl⟩) ?_
          simp only [decide_eq_true_eq, decide_eq_false_iff_not] at h1 h2 h3 h4
          have e := schE_eq s k
          simp only [h1, h2, h3, h4, if_true, if_false] at e
          rw [e]
          refine W.ret ⟨.inr rfl, ?_, rfl⟩
          exact resC Tryz.results15 (by simp only [go_sem, w0, w1, h1, h2, h3, h4])
        ·
          refine W.skip ?_
          -- 9: t32 := move(t3); t33 := build(27, [(0, 3), (1, t32), (2, 1), (3, 2)]); _ := store(27, t2, t33)
          refine W.thn (by simp only [go_sem, w0, w1, h1, h2, h3, h4]; exact ⟨rfl, rfl⟩) ?_
          simp only [decide_eq_true_eq, decide_eq_false_iff_not] at h1 h2 h3 h4
          have e := schE_eq s k
          simp only [h1, h2, h3, h4, if_true, if_false] at e
          rw [e]
          refine W.ret ⟨.inr rfl, ?_, rfl⟩
          exact resC Tryz.results15 (by simp only [go_sem, w0, w1, h1, h2, h3, h4])
      ·
        simp only [go_sem, w0, w1, h1, h2, h3]
        refine hK _ _ ?_
        refine W.condT rfl ?_
        -- 8: t27 := move(t3); t28 := move(t0); t29 := call(value(F17<privatefetchplay.Dice).Pick>)[t28, 2]); t30 := (add, 3, 1, t29, 3); t31 := build(27, [(0, 3), (1, t27), (2, t30), (3, 1)]); _ := store(27, t2, t31)
        refine W.thn (by
          simp only [go_sem, w0, w1, h1, h2, h3]
          refine WP_call_s (by simp only [go_sem, aTarget] <;> rfl) ent17 (sc17c b s _ 2 _ hs hl (by decide)) (by simp) ?_ -- call(value(F17<privatefetchplay.Dice).Pick>)[t28, 2])
          simp only [go_sem, w0, w1, h1, h2, h3]
          exact ⟨rfl, rfl⟩) ?_
        simp only [decide_eq_true_eq, decide_eq_false_iff_not] at h1 h2 h3
        have e := schE_eq s k
        simp only [h1, h2, h3, if_true, if_false] at e
        rw [e]
        refine W.ret ⟨.inr rfl, ?_, rfl⟩
        exact resC Tryz.results15 (by simp only [go_sem, w0, w1, h1, h2, h3])

end Go.Ab
end
section
set_option linter.unusedVariables false
set_option linter.unusedSimpArgs false
namespace Go.Ab
open Go.RowKit Go.Proofs

theorem pc40_ok (x : Sch) (k : Int) (r : AV) (hx : shapeOk x = true) (hk : 1 ≤ k ∧ k ≤ x.s) (hp : r.pureB = true) (hw : ∀ H, Weak (cv 0 H 8 r) r) (hc : PureCall Tryz.prog 89 [.nilSlice, .int .i64 x.s, .nilSlice, .int .i64 1, .int .i64 k] r) : PureCall Tryz.prog 40 [x.av, .int .i64 k] r := by
  have k1 : (k < 1) = False := eq_false (by omega)
  have k2 : (x.s < k) = False := eq_false (by omega)
  refine pureCall Tryz.func40 rfl Tryz.ntmps40 rfl ?_
  simp only [go_sem]
  refine W.thn (by simp only [go_sem]; exact ⟨rfl, rfl⟩) ?_
  refine W.seq ?_
  refine W.thn (by
    simp only [go_sem]
    refine WP_pc (pc88 _) ent88 (by simp only [go_sem, aTarget] <;> rfl) rfl rfl ?_
    simp only [go_sem, hx, k1, k2]
    exact ⟨rfl, rfl⟩) ?_
  refine W.condF (by simp only [go_sem, k1, k2]) ?_
  refine W.skip ?_
  refine W.thn (by
    simp only [go_sem, k1, k2]
    refine WP_pc hc ent89 (by simp only [go_sem, aTarget] <;> rfl) rfl hp ?_
    simp only [go_sem, k1, k2]
    exact ⟨rfl, rfl⟩) ?_
  refine W.ret ⟨.inr rfl, _, res1 Tryz.results40, ?_⟩
  simp only [go_sem, k1, k2]
  exact hw _
theorem pc40_low (x : Sch) (k : Int) (hx : shapeOk x = true) (hk : k < 1) : PureCall Tryz.prog 40 [x.av, .int .i64 k] .nilSlice := by
  have k1 : (k < 1) = True := eq_true hk
  refine pureCall Tryz.func40 rfl Tryz.ntmps40 rfl ?_
  simp only [go_sem]
  refine W.thn (by simp only [go_sem]; exact ⟨rfl, rfl⟩) ?_
  refine W.seq ?_
  refine W.thn (by
    simp only [go_sem]
    refine WP_pc (pc88 _) ent88 (by simp only [go_sem, aTarget] <;> rfl) rfl rfl ?_
    simp only [go_sem, hx, k1]
    exact ⟨rfl, rfl⟩) ?_
  refine W.condT (by simp only [go_sem, k1]) ?_
  refine W.thn (by simp only [go_sem, k1]; exact ⟨rfl, rfl⟩) ?_
  refine W.ret ⟨.inr rfl, _, res1 Tryz.results40, ?_⟩
  simp only [go_sem, k1]
  exact Weak.refl _
theorem pc40_high (x : Sch) (k : Int) (hx : shapeOk x = true) (hk : 1 ≤ k ∧ x.s < k) : PureCall Tryz.prog 40 [x.av, .int .i64 k] .nilSlice := by
  have k1 : (k < 1) = False := eq_false (by omega)
  have k2 : (x.s < k) = True := eq_true hk.2
  refine pureCall Tryz.func40 rfl Tryz.ntmps40 rfl ?_
  simp only [go_sem]
  refine W.thn (by simp only [go_sem]; exact ⟨rfl, rfl⟩) ?_
  refine W.seq ?_
  refine W.thn (by
    simp only [go_sem]
    refine WP_pc (pc88 _) ent88 (by simp only [go_sem, aTarget] <;> rfl) rfl rfl ?_
    simp only [go_sem, hx, k1, k2]
    exact ⟨rfl, rfl⟩) ?_
  refine W.condT (by simp only [go_sem, k1, k2]) ?_
  refine W.thn (by simp only [go_sem, k1, k2]; exact ⟨rfl, rfl⟩) ?_
  refine W.ret ⟨.inr rfl, _, res1 Tryz.results40, ?_⟩
  simp only [go_sem, k1, k2]
  exact Weak.refl _
def beforeL : List Int → List Int → Bool
  | x :: a, y :: b => if x = y then beforeL a b else decide (x < y)
  | _, _ => false
theorem pc43 (a b : List Int) (u w : Bool) (hl : a.length = b.length) (hn : a.length ≤ 1000000) : PureCall Tryz.prog 43 [.vals 1 (a.map (AV.int .i64)) u, .vals 1 (b.map (AV.int .i64)) w] (.bool (beforeL a b)) := by
  refine pureCall Tryz.func43 rfl Tryz.ntmps43 rfl ?_
  simp only [go_sem]
  -- 0: t4 := assign(false)
  refine W.thn (by simp only [go_sem]; exact ⟨rfl, rfl⟩) ?_
  refine W.seq ?_
  -- 1: t6 := move(t0); t7 := call(builtin(len)[t6]); t8 := move(0)
  refine W.thn (by simp only [go_sem]; exact ⟨rfl, rfl⟩) ?_
  refine W.block ?_
  refine W.loopE [0, 1, 6, 7, 8] (fun m l H => ∃ j : Nat, j ≤ a.length ∧ m = a.length - j ∧ beforeL a b = beforeL (a.drop j) (b.drop j) ∧ l = [(0, .vals 1 (a.map (AV.int .i64)) u), (1, .vals 1 (b.map (AV.int .i64)) w), (6, .vals 1 (a.map (AV.int .i64)) u), (7, .int .i64 a.length), (8, .int .i64 j)] ∧ H = []) ⟨a.length, 0, by omega, by omega, by simp, by simp only [go_sem]; rfl, rfl⟩ fun m l H ⟨j, hj, hm, hbe, e1, e2⟩ => ?_
  subst e1; subst e2
  -- 2: t9 := (lss, 3, t8, t7, 3)
  refine W.thn (by simp only [go_sem]; exact ⟨rfl, rfl⟩) ?_
  refine W.seq ?_
  refine W.ifB rfl (fun h1 => ?_) fun h1 => ?_ -- t9
  ·
    simp only [decide_eq_true_eq] at h1
    have hja : j < a.length := by omega
    have hjb : j < b.length := by omega
    have hx0 : a[j]? = some a[j] := List.getElem?_eq_getElem hja
    have hy0 : b[j]? = some b[j] := List.getElem?_eq_getElem hjb
    rw [List.drop_eq_getElem_cons hja, List.drop_eq_getElem_cons hjb] at hbe
    simp only [beforeL] at hbe
    generalize a[j] = x at hx0 hbe
    generalize b[j] = y at hy0 hbe
    refine W.skip ?_
    refine W.seq ?_
    refine W.block ?_
    -- 3: t10 := move(t8); t5 := assign(t10)
    refine W.thn (by simp only [go_sem, hja, hjb, at0 hx0, at0 hy0, wrapS (show j < 4611686018427387904 by omega)]; exact ⟨rfl, rfl⟩) ?_
    -- 4: t11 := move(t0); t12 := move(t5); t13 := indexAddr(33, t11, t12); t14 := load(3, t13); t15 := move(t1); t16 := move(t5); t17 := indexAddr(33, t15, t16); t18 := load(3, t17); t19 := (neq, 3, t14, t18, 3)
    refine W.drawThn [0, 1, 2, 3, 4, 5, 6, 7, 8] [.n, .n, .n, .n, .n, .n, .n, .n, .n] [[], [], [0, 1], [0, 1, 2], [], [], [4, 5], [4, 5, 6], [0, 1, 2, 3, 4, 5, 6, 7]] rfl (by decide +kernel) (by simp only [go_sem, hja, hjb, at0 hx0, at0 hy0, wrapS (show j < 4611686018427387904 by omega)]; exact ⟨rfl, rfl⟩) ?_
    refine W.ifNB rfl (fun h2 => ?_) fun h2 => ?_ -- t19
    ·
      -- 5: t20 := move(t0); t21 := move(t5); t22 := indexAddr(33, t20, t21); t23 := load(3, t22); t24 := move(t1); t25 := move(t5); t26 := indexAddr(33, t24, t25); t27 := load(3, t26); t28 := (lss, 3, t23, t27, 3); t4 := assign(t28)
      refine W.drawThn [0, 1, 2, 3, 4, 5, 6, 7, 8, 9] [.n, .n, .n, .n, .n, .n, .n, .n, .n, .n] [[], [], [0, 1], [0, 1, 2], [], [], [4, 5], [4, 5, 6], [0, 1, 2, 3, 4, 5, 6, 7], [0, 1, 2, 3, 4, 5, 6, 7, 8]] rfl (by decide +kernel) (by simp only [go_sem, h2, hja, hjb, at0 hx0, at0 hy0, wrapS (show j < 4611686018427387904 by omega)]; exact ⟨rfl, rfl⟩) ?_
      refine W.ret ⟨.inr rfl, _, res1 Tryz.results43, ?_⟩
      simp only [go_sem, h2, hja, hjb, at0 hx0, at0 hy0, wrapS (show j < 4611686018427387904 by omega)]
      simp only [Bool.not_eq_true', decide_eq_false_iff_not] at h2
      exact Weak.of_eq (congrArg AV.bool (by rw [hbe, if_neg h2]))
    ·
      refine W.skip ?_
      -- 6: t29 := (add, 3, t8, 1, 3); t8 := move(t29)
      refine W.lst (by simp only [go_sem, h2, hja, hjb, at0 hx0, at0 hy0, wrapS (show j < 4611686018427387904 by omega)]; exact ⟨rfl, rfl⟩) ?_
      simp only [Bool.not_eq_false', decide_eq_true_eq] at h2
      exact ⟨_, a.length - (j + 1), rfl, by omega, j + 1, by omega, rfl, by rw [hbe, if_pos h2], by simp only [go_sem], rfl⟩
  ·
    refine W.exit ?_ -- to 0
    -- 7: t4 := assign(false)
    refine W.thn (by simp only [go_sem, h1]; exact ⟨rfl, rfl⟩) ?_
    refine W.ret ⟨.inr rfl, _, res1 Tryz.results43, ?_⟩
    simp only [go_sem, h1]
    simp only [decide_eq_false_iff_not] at h1
    exact Weak.of_eq (congrArg AV.bool (by rw [hbe, List.drop_eq_nil_of_le (by omega)]; rfl))

end Go.Ab
end
section
set_option linter.unusedVariables false
set_option linter.unusedSimpArgs false
namespace Go.Ab
open Go.RowKit Go.Proofs

/-- The ascending lists of k numbers out of the m numbers from lo on. -/
def comb : Nat → Nat → Int → List (List Int)
  | _, 0, _ => [[]]
  | 0, _ + 1, _ => []
  | m + 1, k + 1, lo => (comb m k (lo + 1)).map (lo :: ·) ++ comb m (k + 1) (lo + 1)
def coal (n k : Nat) : List (List Int) := comb n k 1
def coalAV (C : List (List Int)) : AV := .vals 1 (C.map fun l => .vals 1 (l.map (AV.int .i64)) true) true
def Good (n k : Nat) (C : List (List Int)) : Prop :=
  (∀ l, l ∈ C → l.length = k ∧ 1 ≤ l.getD 0 0 ∧ l.getD (k - 1) 0 ≤ (n : Int) ∧ ∀ i, i < k → 1 ≤ i → l.getD (i - 1) 0 < l.getD i 0) ∧ ∀ j, j < C.length → 1 ≤ j → beforeL (C.getD (j - 1) []) (C.getD j []) = true
def goodB (n k : Nat) (C : List (List Int)) : Bool :=
  (C.all fun l => l.length == k && decide (1 ≤ l.getD 0 0) && decide (l.getD (k - 1) 0 ≤ (n : Int)) && (List.range k).all fun i => !decide (1 ≤ i) || decide (l.getD (i - 1) 0 < l.getD i 0)) && (List.range C.length).all fun j => !decide (1 ≤ j) || beforeL (C.getD (j - 1) []) (C.getD j [])
theorem good_of {n k : Nat} {C : List (List Int)} (h : goodB n k C = true) : Good n k C := by
  simp only [goodB, Bool.and_eq_true, List.all_eq_true, List.mem_range, Bool.or_eq_true, Bool.not_eq_true', decide_eq_false_iff_not, decide_eq_true_eq, beq_iff_eq] at h
  exact ⟨fun l hl => ⟨(h.1 l hl).1.1.1, (h.1 l hl).1.1.2, (h.1 l hl).1.2, fun i hi h1 => ((h.1 l hl).2 i hi).resolve_left fun hn => hn h1⟩, fun j hj h1 => (h.2 j hj).resolve_left fun hn => hn h1⟩
theorem goodAll : ∀ n, n < 7 → ∀ k, k < 7 → (!decide (3 ≤ n ∧ 1 ≤ k ∧ k ≤ n) || (goodB n k (coal n k) && decide ((coal n k).length ≤ 1000))) = true := by decide +kernel
theorem good (n k : Nat) (hn : 3 ≤ n ∧ n ≤ 6) (hk : 1 ≤ k ∧ k ≤ n) : Good n k (coal n k) ∧ (coal n k).length ≤ 1000 :=
  have h := goodAll n (by omega) k (by omega)
  by
    rw [decide_eq_true (show 3 ≤ n ∧ 1 ≤ k ∧ k ≤ n by omega)] at h
    simp only [Bool.not_true, Bool.false_or, Bool.and_eq_true, decide_eq_true_eq] at h
    exact ⟨good_of h.1, h.2⟩
/-- How many there are up to that size, and the empty one. -/
def cntTo (n : Nat) : Nat → Nat
  | 0 => 1
  | k + 1 => cntTo n k + (coal n (k + 1)).length
theorem cntTo_le : ∀ n, n < 7 → ∀ k, k < 7 → cntTo n k ≤ 1000 := by decide +kernel
theorem cntTo_all : ∀ n, n < 7 → 3 ≤ n → cntTo n n = 2 ^ n := by decide +kernel
theorem pc89 (n k : Nat) (hn : 3 ≤ n ∧ n ≤ 6) (hk : 1 ≤ k ∧ k ≤ n) : PureCall Tryz.prog 89 [.nilSlice, .int .i64 n, .nilSlice, .int .i64 1, .int .i64 k] (coalAV (coal n k)) := by
  match n, k, hn, hk with
  | 3, 1, _, _ => exact fc31
  | 3, 2, _, _ => exact fc32
  | 3, 3, _, _ => exact fc33
  | 4, 1, _, _ => exact fc41
  | 4, 2, _, _ => exact fc42
  | 4, 3, _, _ => exact fc43
  | 4, 4, _, _ => exact fc44
  | 5, 1, _, _ => exact fc51
  | 5, 2, _, _ => exact fc52
  | 5, 3, _, _ => exact fc53
  | 5, 4, _, _ => exact fc54
  | 5, 5, _, _ => exact fc55
  | 6, 1, _, _ => exact fc61
  | 6, 2, _, _ => exact fc62
  | 6, 3, _, _ => exact fc63
  | 6, 4, _, _ => exact fc64
  | 6, 5, _, _ => exact fc65
  | 6, 6, _, _ => exact fc66
  | 0, _, h, _ => omega
  | 1, _, h, _ => omega
  | 2, _, h, _ => omega
  | n + 7, _, h, _ => omega
  | 3, 0, _, h => omega
  | 4, 0, _, h => omega
  | 5, 0, _, h => omega
  | 6, 0, _, h => omega
  | 3, k + 4, _, h => omega
  | 4, k + 5, _, h => omega
  | 5, k + 6, _, h => omega
  | 6, k + 7, _, h => omega
theorem coalAV_pure (C : List (List Int)) : (coalAV C).pureB = true := by
  unfold coalAV
  simp only [go_sem]
theorem coalAV_cv (C : List (List Int)) (H : Heap) : Weak (cv 0 H 8 (coalAV C)) (coalAV C) := by
  unfold coalAV
  simp only [go_sem]
  exact Weak.refl _
theorem pc40_coal (x : Sch) (n k : Nat) (hx : shapeOk x = true) (hs : x.s = n) (hn : 3 ≤ n ∧ n ≤ 6) (hk : 1 ≤ k ∧ k ≤ n) : PureCall Tryz.prog 40 [x.av, .int .i64 k] (coalAV (coal n k)) :=
  pc40_ok x k _ hx (by omega) (coalAV_pure _) (coalAV_cv _) (by rw [hs]; exact pc89 n k hn hk)
theorem schE_ok {s : List Int} (k : Nat) (hs : u8s s) : shapeOk (schE s k).1 = true ∧ ∃ n : Nat, (schE s k).1.s = n ∧ 3 ≤ n ∧ n ≤ 6 := by
  have a := pickV_ok k 4 hs (by decide)
  have b := pickV_ok (pickK s k) 3 hs (by decide)
  have c := pickV_ok (pickK s (pickK s k)) 2 hs (by decide)
  have d := pickV_ok (pickK s (pickK s (pickK s k))) 2 hs (by decide)
  refine ⟨?_, (3 + pickV s k 4).toNat, ?_, by omega, by omega⟩
  · rw [schE_eq]
    repeat' split
    all_goals (dsimp only [shapeOk]; rw [decide_eq_true_eq]; omega)
  · rw [schE_eq]
    repeat' split
    all_goals (dsimp only; omega)
theorem sc14 (s : List Int) (b : Bool) (hs : u8s s) (h : s.length < 9223372036854775808) : ∃ s', u8s s' ∧ s'.length ≤ 300 ∧ SoundCall Tryz.prog 14 [.vals 1 (s.map (AV.int .u8)) b] [] (.ptr 0 0 2) [diceB b s' 0] := by
  by_cases h1 : s.length ≤ 300
  · exact ⟨s, hs, h1, sc14_short s b h1⟩
  · exact ⟨s.take 300, fun c hc => hs c (List.mem_of_mem_take hc), by rw [List.length_take]; omega, sc14_long s b (by omega) h⟩
end Go.Ab
end
section
set_option linter.unusedVariables false
set_option linter.unusedSimpArgs false
namespace Go.Ab
open Go.RowKit Go.Proofs

theorem pc7 (zs : List Int) (b : Bool) (hu : u8s zs) (hz : zs.length < 9223372036854775808) : PureCall Tryz.prog 7 [.vals 1 (zs.map (AV.int .u8)) b] (.bool true) := by
  obtain ⟨s, hs, hsl, hnew⟩ := sc14 zs b hu hz
  have hsch := sc15 b s 0 hs hsl
  obtain ⟨hx, n, hn, hnr⟩ := schE_ok 0 hs
  generalize (schE s 0).1 = x at hsch hx hn
  generalize (schE s 0).2 = k0 at hsch
  generalize diceB b s 0 = D0 at hnew hsch
  generalize diceB b s k0 = D at hsch
  generalize AObj.blk x.av.cells 4 false = S at hsch
  have hxav : x.av = .agg [.int .i64 x.k, .int .i64 n, .int .i64 x.d, .int .i64 x.g] := by rw [Sch.av_eq, hn]
  refine pureCall Tryz.func7 rfl Tryz.ntmps7 rfl ?_
  simp only [go_sem]
  -- 0: t2 := assign(false)
  refine W.thn (by simp only [go_sem]; exact ⟨rfl, rfl⟩) ?_
  refine W.seq ?_
  -- 1: t11 := call(value(F38<privatefetchlaw45.sane>)[]); t12 := unOp(not, 4, t11)
  refine W.thn (by
    simp only [go_sem]
    refine WP_pc fs38 ent38 (by simp only [go_sem, aTarget] <;> rfl) rfl rfl ?_
    simp only [go_sem]
    exact ⟨rfl, rfl⟩) ?_
  refine W.condF (by simp only [go_sem]) ?_
  refine W.skip ?_
  -- 3: t13 := move(t0); t14 := call(value(F14<privatefetchplay.New>)[t13]); t3 := assign(t14)
  refine W.thn (by
    simp only [go_sem]
    refine WP_call_s (by simp only [go_sem, aTarget] <;> rfl) ent14 hnew (by simp) ?_
    simp only [go_sem]
    exact ⟨rfl, rfl⟩) ?_
  -- 4: t15 := move(t3); t16 := call(value(F15<privatefetchplay.Dice).Scheme>)[t15]); t4 := alloc(27); _ := store(27, t4, t16)
  refine W.thn (by
    simp only [go_sem]
    refine WP_call_s (by simp only [go_sem, aTarget] <;> rfl) ent15 hsch (by simp) ?_
    simp only [go_sem, hxav]
    exact ⟨rfl, rfl⟩) ?_
  -- 5: t5 := assign(1)
  refine W.thn (by simp only [go_sem]; exact ⟨rfl, rfl⟩) ?_
  refine W.seq ?_
  -- 6: t6 := assign(1)
  refine W.thn (by simp only [go_sem]; exact ⟨rfl, rfl⟩) ?_
  refine W.block ?_
  refine W.loopE [4, 5, 6] (fun m l H => ∃ j : Nat, j ≤ n ∧ m = n - j ∧ l = [(4, .ptr 2 0 4), (5, .int .i64 (cntTo n j : Nat)), (6, .int .i64 (j + 1 : Nat))] ∧ H = [D, S, .blk [.int .i64 x.k, .int .i64 n, .int .i64 x.d, .int .i64 x.g] 4 false]) ⟨n, 0, by omega, by omega, by simp only [go_sem]; rfl, rfl⟩ fun m l H ⟨j, hj, hm, e1, e2⟩ => ?_
  subst e1; subst e2
  refine W.seq ?_
  -- 7: t17 := move(t6); t18 := fieldAddr(27, t4, 1); t19 := load(3, t18); t20 := (leq, 3, t17, t19, 3)
  refine W.thn (by simp only [go_sem]; exact ⟨rfl, rfl⟩) ?_
  refine W.ifB rfl (fun h2 => ?_) fun h2 => ?_ -- t20
  ·
    simp only [decide_eq_true_eq] at h2
    have hjn : j + 1 ≤ n := by omega
    obtain ⟨hgood, hlen⟩ := good n (j + 1) hnr ⟨by omega, hjn⟩
    have hc40 := pc40_coal x n (j + 1) hx hn hnr ⟨by omega, hjn⟩
    have hcnt := cntTo_le n (by omega) j (by omega)
    have hcn : cntTo n (j + 1) = cntTo n j + (coal n (j + 1)).length := rfl
    generalize coal n (j + 1) = C at hgood hlen hc40 hcn
    rw [hxav] at hc40
    refine W.skip ?_
    refine W.seq ?_
    refine W.block ?_
    -- 9: t23 := load(27, t4); t24 := move(t6); t25 := call(value(F40<audit.Coalitions>)[t23, t24]); t7 := assign(t25)
    refine W.thn (by
      simp only [go_sem]
      refine WP_pc hc40 ent40 (by simp only [go_sem, aTarget] <;> rfl) rfl (coalAV_pure _) ?_
      simp only [go_sem]
      exact ⟨rfl, rfl⟩) ?_
    -- 10: t26 := move(t5); t27 := move(t7); t28 := call(builtin(len)[t27]); t29 := (add, 3, t26, t28, 3); t5 := assign(t29)
    refine W.thn (by simp only [go_sem, coalAV, List.length_map, w64 (show -9223372036854775808 ≤ ((cntTo n j : Nat) : Int) + (C.length : Int) ∧ ((cntTo n j : Nat) : Int) + (C.length : Int) ≤ 9223372036854775807 by omega)]; exact ⟨rfl, rfl⟩) ?_
    -- 11: t30 := move(t7); t31 := call(builtin(len)[t30]); t32 := move(0)
    refine W.thn (by simp only [go_sem, List.length_map]; exact ⟨rfl, rfl⟩) ?_
    refine W.block ?_
    refine W.loopE [4, 5, 6, 7, 30, 31, 32] (fun m l H => ∃ i : Nat, i ≤ C.length ∧ m = C.length - i ∧ l = [(4, .ptr 2 0 4), (5, .int .i64 ((cntTo n j : Nat) + (C.length : Int))), (6, .int .i64 (j + 1 : Nat)), (7, coalAV C), (30, coalAV C), (31, .int .i64 C.length), (32, .int .i64 i)] ∧ H = [D, S, .blk [.int .i64 x.k, .int .i64 n, .int .i64 x.d, .int .i64 x.g] 4 false]) ⟨C.length, 0, by omega, by omega, by simp only [go_sem, coalAV]; rfl, rfl⟩ fun m l H ⟨i, hi, hm, e1, e2⟩ => ?_
    subst e1; subst e2
    -- 12: t33 := (lss, 3, t32, t31, 3)
    refine W.thn (by simp only [go_sem]; exact ⟨rfl, rfl⟩) ?_
    refine W.seq ?_
    refine W.ifB rfl (fun h3 => ?_) fun h3 => ?_ -- t33
    ·
      simp only [decide_eq_true_eq] at h3
      have hil : i < C.length := by omega
      have hL0 : C[i]? = some C[i] := List.getElem?_eq_getElem hil
      have hLm := hgood.1 C[i] (List.getElem_mem _)
      have hLb := hgood.2 i hil
      rw [show C.getD i [] = C[i] by simp [hil]] at hLb
      generalize C[i] = L at hL0 hLm hLb
      obtain ⟨hLl, hL1, hLn, hLa⟩ := hLm
      have hq0 : L[0]? = some (L.getD 0 0) := by rw [List.getD_eq_getElem?_getD, List.getElem?_eq_getElem (by omega)]; rfl
      have hqk : L[j]? = some (L.getD j 0) := by rw [List.getD_eq_getElem?_getD, List.getElem?_eq_getElem (by omega)]; rfl
      have hLn' : L.getD j 0 ≤ (n : Int) := hLn
      have f1 : ((L.length : Int) = ((j + 1 : Nat) : Int)) = True := eq_true (by omega)
      have f2 : (L.getD 0 0 < 1) = False := eq_false (by omega)
      have f3 : ((n : Int) < L.getD j 0) = False := eq_false (by omega)
      have f4 : IntKind.i64.wrap (((j + 1 : Nat) : Int) - 1) = (j : Int) := by rw [show (((j + 1 : Nat) : Int) - 1) = (j : Int) by omega]; exact w64 (by omega)
      have hq00 : (L.map (AV.int .i64))[0]? = some (AV.int .i64 (L.getD 0 0)) := by rw [List.getElem?_map, hq0]; rfl
      have f5 : 0 < L.length := by omega
      have f6 : j < L.length := by omega
      refine W.skip ?_
      refine W.seq ?_
      refine W.block ?_
      -- 13: t34 := move(t32); t35 := indexAddr(59, t30, t32); t36 := load(33, t35); t8 := assign(t34); t9 := assign(t36)
      refine W.thn (by simp only [go_sem, coalAV, hil, at0 hL0, List.length_map]; exact ⟨rfl, rfl⟩) ?_
      refine W.seq ?_
      refine W.drawThn [0, 1, 2, 3, 4, 5, 6, 7, 8, 9, 10, 11, 12, 13, 14, 15, 16, 17, 18, 19] [.n, .n, .n, .n, .n, .n, .n, .n, .n, .n, .n, .n, .n, .n, .n, .n, .n, .n, .n, .n] [[], [0], [], [0, 1, 2], [0, 1, 2, 3], [0, 1, 2, 3, 4], [0, 1, 2, 3, 4, 5], [0, 1, 2, 3, 4, 5, 6], [0, 1, 2, 3, 4, 5, 6, 7], [0, 1, 2, 3, 4, 5, 6, 7, 8], [0, 1, 2, 3, 4, 5, 6, 7, 8, 9], [0, 1, 2, 3, 4, 5, 6, 7, 8, 9, 10], [0, 1, 2, 3, 4, 5, 6, 7, 8, 9, 10], [0, 1, 2, 3, 4, 5, 6, 7, 8, 9, 10, 12], [0, 1, 2, 3, 4, 5, 6, 7, 8, 9, 10, 11, 12, 13], [0, 1, 2, 3, 4, 5, 6, 7, 8, 9, 10, 11, 12, 13, 14], [0, 1, 2, 3, 4, 5, 6, 7, 8, 9, 10], [0, 1, 2, 3, 4, 5, 6, 7, 8, 9, 10, 16], [0, 1, 2, 3, 4, 5, 6, 7, 8, 9, 10, 11, 12, 13, 14, 15, 16, 17], [0, 1, 2, 3, 4, 5, 6, 7, 8, 9, 10, 11, 12, 13, 14, 15, 16, 17, 18]] rfl (by decide +kernel) (by simp only [go_sem, f1, f2, f3, f4, f5, f6, hq00, at0 hqk, List.length_map]; exact ⟨rfl, rfl⟩) ?_
      refine W.condF (by simp only [go_sem, f1, f2, f3]) ?_
      refine W.skip ?_
      refine W.seq ?_
      -- 16: t10 := assign(1)
      refine W.thn (by simp only [go_sem]; exact ⟨rfl, rfl⟩) ?_
      refine W.block ?_
      refine W.loopE [4, 5, 6, 7, 8, 9, 10, 30, 31, 32] (fun m l H => ∃ q : Nat, q ≤ j ∧ m = j - q ∧ l = [(4, .ptr 2 0 4), (5, .int .i64 ((cntTo n j : Nat) + (C.length : Int))), (6, .int .i64 (j + 1 : Nat)), (7, coalAV C), (8, .int .i64 i), (9, .vals 1 (L.map (AV.int .i64)) true), (10, .int .i64 (q + 1 : Nat)), (30, coalAV C), (31, .int .i64 C.length), (32, .int .i64 i)] ∧ H = [D, S, .blk [.int .i64 x.k, .int .i64 n, .int .i64 x.d, .int .i64 x.g] 4 false]) ⟨j, 0, by omega, by omega, by simp only [go_sem, coalAV]; rfl, rfl⟩ fun m l H ⟨q, hq, hm, e1, e2⟩ => ?_
      subst e1; subst e2
      refine W.seq ?_
      -- 17: t57 := move(t10); t58 := move(t6); t59 := (lss, 3, t57, t58, 3)
      refine W.thn (by simp only [go_sem]; exact ⟨rfl, rfl⟩) ?_
      refine W.ifB rfl (fun h7 => ?_) fun h7 => ?_ -- t59
      ·
        simp only [decide_eq_true_eq] at h7
        have hqj : q < j := by omega
        have hqa : L[q]? = some (L.getD q 0) := by rw [List.getD_eq_getElem?_getD, List.getElem?_eq_getElem (by omega)]; rfl
        have hqb : L[q + 1]? = some (L.getD (q + 1) 0) := by rw [List.getD_eq_getElem?_getD, List.getElem?_eq_getElem (by omega)]; rfl
        have hlt : L.getD q 0 < L.getD (q + 1) 0 := hLa (q + 1) (by omega) (by omega)
        have g1 : IntKind.i64.wrap (((q + 1 : Nat) : Int) - 1) = (q : Int) := by rw [show (((q + 1 : Nat) : Int) - 1) = (q : Int) by omega]; exact w64 (by omega)
        have g2 : (L.getD (q + 1) 0 ≤ L.getD q 0) = False := eq_false (by omega)
        have g3 : q < L.length := by omega
        have g4 : q + 1 < L.length := by omega
        refine W.skip ?_
        refine W.seq ?_
        refine W.block ?_
        refine W.drawThn [0, 1, 2, 3, 4, 5, 6, 7, 8, 9] [.n, .n, .n, .n, .n, .n, .n, .n, .n, .n] [[], [], [1], [0, 1, 2], [0, 1, 2, 3], [], [], [5, 6], [5, 6, 7], [0, 1, 2, 3, 4, 5, 6, 7, 8]] rfl (by decide +kernel) (by simp only [go_sem, g1, g3, g4, at0 hqa, at0 hqb, List.length_map]; exact ⟨rfl, rfl⟩) ?_
        refine W.condF (by simp only [go_sem, g2]) ?_
        refine W.skip ?_
        -- 18: t60 := move(t10); t61 := (add, 3, t60, 1, 3); t10 := assign(t61)
        refine W.lst (by simp only [go_sem, wrapS (show q + 1 < 4611686018427387904 by omega)]; exact ⟨rfl, rfl⟩) ?_
        exact ⟨_, j - (q + 1), rfl, by omega, q + 1, by omega, rfl, by simp only [go_sem], rfl⟩
      ·
        refine W.exit ?_ -- to 4
        -- 21
        by_cases hi0 : i = 0
        · subst hi0
          have z0 : ((0 : Int) < ((0 : Nat) : Int)) = False := eq_false (by omega)
          refine W.thn (by simp only [go_sem, z0]; exact ⟨rfl, rfl⟩) ?_
          refine W.condF (by simp only [go_sem, z0]) ?_
          refine W.skip ?_
          refine W.lst (by simp only [go_sem, wrapS (show 0 < 4611686018427387904 by omega)]; exact ⟨rfl, rfl⟩) ?_
          exact ⟨_, C.length - (0 + 1), rfl, by omega, 0 + 1, by omega, rfl, by simp only [go_sem], rfl⟩
        · have hpl : i - 1 < C.length := by omega
          have hP0 : C[i - 1]? = some C[i - 1] := List.getElem?_eq_getElem hpl
          have hPm := hgood.1 C[i - 1] (List.getElem_mem _)
          have hPb := hLb (by omega)
          rw [show C.getD (i - 1) [] = C[i - 1] by simp [hpl]] at hPb
          generalize C[i - 1] = M at hP0 hPm hPb
          have p1 : ((0 : Int) < (i : Int)) = True := eq_true (by omega)
          have p2 : IntKind.i64.wrap ((i : Int) - 1) = ((i - 1 : Nat) : Int) := by rw [show ((i : Int) - 1) = ((i - 1 : Nat) : Int) by omega]; exact w64 (by omega)
          refine W.thn (by
            simp only [go_sem, p1, p2, coalAV, hpl, at0 hP0, List.length_map]
            refine WP_pc (pc43 M L true true (by rw [hLl, hPm.1]) (by rw [hPm.1]; omega)) ent43 (by simp only [go_sem, aTarget] <;> rfl) (by simp only [go_sem]) rfl ?_
            simp only [go_sem, hPb]
            exact ⟨rfl, rfl⟩) ?_
          refine W.condF (by simp only [go_sem, p1, hPb]) ?_
          refine W.skip ?_
          refine W.lst (by simp only [go_sem, wrapS (show i < 4611686018427387904 by omega)]; exact ⟨rfl, rfl⟩) ?_
          exact ⟨_, C.length - (i + 1), rfl, by omega, i + 1, by omega, rfl, by simp only [go_sem]; rfl, rfl⟩
    ·
      refine W.exit ?_ -- to 2
      -- 8: t21 := move(t6); t22 := (add, 3, t21, 1, 3); t6 := assign(t22)
      refine W.lst (by simp only [go_sem, wrapS (show j + 1 < 4611686018427387904 by omega)]; exact ⟨rfl, rfl⟩) ?_
      exact ⟨_, n - (j + 1), rfl, by omega, j + 1, by omega, rfl, by simp only [go_sem, hcn, Int.natCast_add], rfl⟩
  ·
    simp only [decide_eq_false_iff_not] at h2
    obtain rfl : j = n := by omega
    have hall := cntTo_all j (by omega) (by omega)
    have lo := pc40_low x 0 hx (by decide)
    have hi := pc40_high x (j + 1 : Nat) hx (by omega)
    rw [hxav] at lo hi
    have s1 : IntKind.i64.wrap (1 * 2 ^ min j 64) = ((cntTo j j : Nat) : Int) := by
      rw [hall, Nat.min_eq_left (by omega)]
      have h6 : 2 ^ j ≤ 2 ^ 6 := Nat.pow_le_pow_right (by decide) hnr.2
      have h7 : ((2 ^ j : Nat) : Int) = 2 ^ j := by simp
      rw [Int.one_mul, ← h7]; exact w64 (by omega)
    have s2 : (0 : Int) ≤ (j : Int) := by omega
    refine W.exit ?_ -- to 0
    -- 24
    refine W.thn (by
      simp only [go_sem, s1, s2]
      refine WP_pc lo ent40 (by simp only [go_sem, aTarget] <;> rfl) rfl rfl ?_
      simp only [go_sem, wrapS (show j < 4611686018427387904 by omega)]
      refine WP_pc hi ent40 (by simp only [go_sem, aTarget] <;> rfl) rfl rfl ?_
      simp only [go_sem]
      exact ⟨rfl, rfl⟩) ?_
    refine W.ret ⟨.inr rfl, _, res1 Tryz.results7, ?_⟩
    simp only [go_sem]
    exact Weak.refl _
end Go.Ab
end
