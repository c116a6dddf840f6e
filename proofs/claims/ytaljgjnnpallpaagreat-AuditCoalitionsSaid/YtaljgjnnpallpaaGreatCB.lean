/- Contracts of the functions: iterators over slices. And what follows from there. -/
import Derived.Test.YtaljgjnnpallpaaGreatA18
import Derived.Test.YtaljgjnnpallpaaGreatCA
section
set_option linter.unusedVariables false
set_option linter.unusedSimpArgs false
namespace Go.Ab
open Go.RowKit Go.Proofs

/-- Index and number, the last one first. -/
def backs (xs : List Int) : List (List AV) := (List.range xs.length).map fun k => [.int .i64 (xs.length - 1 - k : Nat), .int .i64 (xs.getD (xs.length - 1 - k) 0)]
theorem backs_at {xs : List Int} {k : Nat} (h : k < xs.length) : (backs xs)[k]? = some [.int .i64 (xs.length - 1 - k : Nat), .int .i64 (xs.getD (xs.length - 1 - k) 0)] := by
  simp [backs, h]
theorem gen231 (xs : List Int) (b : Bool) (hl : xs.length < 4611686018427387904) : Gen Tryz.prog 231 [.cptr [.vals 1 (xs.map (AV.int .i64)) b]] (backs xs) := by
  refine Gen.of_WJ ent231 rfl Tryz.func231 rfl Tryz.results231 Tryz.ntmps231 rfl fun y => ?_
  simp only [go_sem]
  have w1 : ∀ i : Nat, i ≤ xs.length → IntKind.i64.wrap ((i : Int) - 1) = (i : Int) - 1 := fun i hi => w64 (by omega)
  refine WJ.thn (by simp only [go_sem, w1 _ (Nat.le_refl _)]; exact ⟨rfl, rfl⟩) ?_
  refine WJ.block ?_
  refine WJ.loopE [0, 1, 3] (fun m l k => ∃ j : Nat, j ≤ xs.length ∧ m = j ∧ k = xs.length - j ∧ l = [(0, .yld y), (1, .cptr [.vals 1 (xs.map (AV.int .i64)) b]), (3, .int .i64 ((j : Int) - 1))]) ⟨xs.length, xs.length, by omega, rfl, by omega, by simp only [go_sem]⟩ fun m l k ⟨j, hj, hm, hk, e1⟩ => ?_
  subst e1; subst hk
  refine WJ.seq ?_
  refine WJ.thn (by simp only [go_sem]; exact ⟨rfl, rfl⟩) ?_
  refine WJ.ifB rfl (fun h1 => ?_) fun h1 => ?_
  ·
    simp only [decide_eq_true_eq] at h1
    refine WJ.skip ?_
    refine WJ.seq ?_
    refine WJ.block ?_
    obtain ⟨i, rfl⟩ : ∃ i, j = i + 1 := ⟨j - 1, by omega⟩
    have hi : i < xs.length := by omega
    have hx0 : xs[i]? = some xs[i] := List.getElem?_eq_getElem hi
    have e0 : ((i + 1 : Nat) : Int) - 1 = (i : Int) := by omega
    have hb := backs_at (xs := xs) (k := xs.length - (i + 1)) (by omega)
    rw [show xs.length - 1 - (xs.length - (i + 1)) = i by omega] at hb
    have hb2 : xs.getD i 0 = xs[i] := by simp [List.getD_eq_getElem?_getD, hx0]
    rw [hb2] at hb
    refine WJ.thn (by simp only [go_sem, e0, hi, at0 hx0, hb]; exact ⟨rfl, rfl⟩) ?_
    refine WJ.condF rfl ?_
    refine WJ.skip ?_
    refine WJ.lst (by simp only [go_sem, e0, w1 _ (Nat.le_of_lt hi)]; exact ⟨rfl, rfl⟩) ?_
    refine ⟨_, i, rfl, by omega, i, by omega, rfl, by omega, by simp only [go_sem]⟩
  ·
    simp only [decide_eq_false_iff_not] at h1
    refine WJ.exit ?_
    simp only [go_sem]
    exact ⟨.inl trivial, by simp [backs]; omega⟩

theorem at0' {xs : List AV} {j : Nat} {x : AV} (h : xs[j]? = some x) : (List.drop j xs)[0]? = some x := by simp [h]
theorem gen241 (rows : List AV) (b : Bool) (hl : rows.length < 4611686018427387904) (hp : pureBs rows = true) : Gen Tryz.prog 241 [.cptr [.vals 1 rows b]] (rows.map fun r => [r]) := by
  refine Gen.of_WJ ent241 rfl Tryz.func241 rfl Tryz.results241 Tryz.ntmps241 rfl fun y => ?_
  simp only [go_sem]
  refine WJ.thn (by simp only [go_sem]; exact ⟨rfl, rfl⟩) ?_
  refine WJ.block ?_
  refine WJ.loopE [0, 5, 6, 7] (fun m l k => k ≤ rows.length ∧ m = rows.length - k ∧ l = [(0, .yld y), (5, .vals 1 rows b), (6, .int .i64 rows.length), (7, .int .i64 k)]) ⟨rows.length, by omega, rfl, by simp only [go_sem]; rfl⟩ fun m l k ⟨hk, hm, e1⟩ => ?_
  subst e1
  refine WJ.thn (by simp only [go_sem]; exact ⟨rfl, rfl⟩) ?_
  refine WJ.seq ?_
  refine WJ.ifB rfl (fun h1 => ?_) fun h1 => ?_
  ·
    simp only [decide_eq_true_eq] at h1
    have hi : k < rows.length := by omega
    have hx0 : rows[k]? = some rows[k] := List.getElem?_eq_getElem hi
    refine WJ.skip ?_
    refine WJ.seq ?_
    refine WJ.block ?_
    refine WJ.thn (by simp only [go_sem, hi, at0' hx0]; exact ⟨rfl, rfl⟩) ?_
    refine WJ.thn (by simp only [go_sem, List.getElem?_map, hx0]; exact ⟨rfl, rfl⟩) ?_
    refine WJ.condF rfl ?_
    refine WJ.skip ?_
    refine WJ.lst (by simp only [go_sem, wrapS (show k < 4611686018427387904 by omega)]; exact ⟨rfl, rfl⟩) ?_
    refine ⟨_, rows.length - (k + 1), rfl, by omega, by omega, rfl, by simp only [go_sem]⟩
  ·
    simp only [decide_eq_false_iff_not] at h1
    refine WJ.exit ?_
    simp only [go_sem]
    exact ⟨.inl trivial, by omega⟩

/-- Rows of numbers. -/
def rowsA (rs : List (List Int)) : AV := .vals 1 (rs.map ints) false
@[go_sem] theorem rowsA_eq (rs : List (List Int)) : rowsA rs = .vals 1 (rs.map ints) false := rfl
def cubeA (qs : List (List (List Int))) : AV := .vals 1 (qs.map rowsA) false
@[go_sem] theorem cubeA_eq (qs : List (List (List Int))) : cubeA qs = .vals 1 (qs.map rowsA) false := rfl
def flat3 (qs : List (List (List Int))) : List Int := (qs.map List.flatten).flatten
theorem flat3_at {qs : List (List (List Int))} {i j k : Nat} {p : List (List Int)} {q : List Int} {x : Int} (hp : qs[i]? = some p) (hq : p[j]? = some q) (hx : q[k]? = some x) :
    (flat3 qs)[(flat3 (qs.take i)).length + ((p.take j).flatten.length + k)]? = some x := by
  have e1 : qs = qs.take i ++ p :: qs.drop (i + 1) := by
    obtain ⟨hi, rfl⟩ := List.getElem?_eq_some_iff.1 hp
    rw [← List.drop_eq_getElem_cons hi, List.take_append_drop]
  have e2 : p = p.take j ++ q :: p.drop (j + 1) := by
    obtain ⟨hi, rfl⟩ := List.getElem?_eq_some_iff.1 hq
    rw [← List.drop_eq_getElem_cons hi, List.take_append_drop]
  have hk := (List.getElem?_eq_some_iff.1 hx).1
  have e3 : flat3 qs = flat3 (qs.take i) ++ ((p.take j).flatten ++ (q ++ ((p.drop (j + 1)).flatten ++ flat3 (qs.drop (i + 1))))) := by
    conv => lhs; rw [e1]
    unfold flat3
    rw [List.map_append, List.flatten_append, List.map_cons, List.flatten_cons]
    conv => lhs; rw [e2]
    rw [List.flatten_append, List.flatten_cons]
    simp only [List.append_assoc]
  rw [e3, List.getElem?_append_right (by omega), Nat.add_sub_cancel_left, List.getElem?_append_right (by omega), Nat.add_sub_cancel_left, List.getElem?_append_left hk]
  exact hx
theorem flat3_take {qs : List (List (List Int))} {i : Nat} {p : List (List Int)} (hp : qs[i]? = some p) : (flat3 (qs.take (i + 1))).length = (flat3 (qs.take i)).length + p.flatten.length := by
  rw [List.take_add_one, hp]
  simp [flat3]
theorem flatten_take {p : List (List Int)} {j : Nat} {q : List Int} (hq : p[j]? = some q) : (p.take (j + 1)).flatten.length = (p.take j).flatten.length + q.length := by
  rw [List.take_add_one, hq]
  simp
theorem gen182 (sv : AV) (qs : List (List (List Int))) (b : Bool) (hl : qs.length < 4611686018427387904) (hl2 : ∀ p, p ∈ qs → p.length < 4611686018427387904) (hl3 : ∀ p, p ∈ qs → ∀ q, q ∈ p → q.length < 4611686018427387904) (hsv : sv.pureB = true) :
    Gen Tryz.prog 182 [.cptr [sv, .vals 1 (qs.map rowsA) b]] ((flat3 qs).map fun x => [.int .i64 x]) := by
  refine Gen.of_WJ ent182 (by simp only [pureBs, AV.pureB]; rfl) Tryz.func182 rfl Tryz.results182 Tryz.ntmps182 rfl fun y => ?_
  simp only [go_sem]
  refine WJ.thn (by simp only [go_sem]; exact ⟨rfl, rfl⟩) ?_
  refine WJ.block ?_
  refine WJ.loopE [0, 10, 11, 12] (fun m l k => ∃ i : Nat, i ≤ qs.length ∧ m = qs.length - i ∧ k = (flat3 (qs.take i)).length ∧ l = [(0, .yld y), (10, .vals 1 (qs.map rowsA) b), (11, .int .i64 qs.length), (12, .int .i64 i)]) ⟨qs.length, 0, by omega, rfl, by simp [flat3], by simp only [go_sem]; rfl⟩ fun m l k ⟨i, hi, hm, hk, e1⟩ => ?_
  subst e1; subst hk
  refine WJ.thn (by simp only [go_sem]; exact ⟨rfl, rfl⟩) ?_
  refine WJ.seq ?_
  refine WJ.ifB rfl (fun h1 => ?_) fun h1 => ?_
  ·
    simp only [decide_eq_true_eq] at h1
    have hi1 : i < qs.length := by omega
    have hp0 : qs[i]? = some qs[i] := List.getElem?_eq_getElem hi1
    have hpm : qs[i] ∈ qs := List.getElem_mem _
    generalize qs[i] = p at hp0 hpm
    have hpl := hl2 p hpm
    refine WJ.skip ?_
    refine WJ.seq ?_
    refine WJ.block ?_
    refine WJ.thn (by simp only [go_sem, hi1, at0 hp0]; exact ⟨rfl, rfl⟩) ?_
    refine WJ.thn (by simp only [go_sem]; exact ⟨rfl, rfl⟩) ?_
    refine WJ.block ?_
    refine WJ.loopE [0, 10, 11, 12, 16, 17, 18] (fun m l k => ∃ j : Nat, j ≤ p.length ∧ m = p.length - j ∧ k = (flat3 (qs.take i)).length + (p.take j).flatten.length ∧ l = [(0, .yld y), (10, .vals 1 (qs.map rowsA) b), (11, .int .i64 qs.length), (12, .int .i64 i), (16, .vals 1 (p.map ints) false), (17, .int .i64 p.length), (18, .int .i64 j)]) ⟨p.length, 0, by omega, rfl, by simp, by simp only [go_sem]; rfl⟩ fun m2 l k ⟨j, hj, hm2, hk, e1⟩ => ?_
    subst e1; subst hk
    refine WJ.thn (by simp only [go_sem]; exact ⟨rfl, rfl⟩) ?_
    refine WJ.seq ?_
    refine WJ.ifB rfl (fun h2 => ?_) fun h2 => ?_
    ·
      simp only [decide_eq_true_eq] at h2
      have hj1 : j < p.length := by omega
      have hq0 : p[j]? = some p[j] := List.getElem?_eq_getElem hj1
      have hqm : p[j] ∈ p := List.getElem_mem _
      generalize p[j] = q at hq0 hqm
      have hql := hl3 p hpm q hqm
      refine WJ.skip ?_
      refine WJ.seq ?_
      refine WJ.block ?_
      refine WJ.thn (by simp only [go_sem, hj1, at0 hq0]; exact ⟨rfl, rfl⟩) ?_
      refine WJ.thn (by simp only [go_sem]; exact ⟨rfl, rfl⟩) ?_
      refine WJ.block ?_
      refine WJ.loopE [0, 10, 11, 12, 16, 17, 18, 22, 23, 24] (fun m l k => ∃ c : Nat, c ≤ q.length ∧ m = q.length - c ∧ k = (flat3 (qs.take i)).length + ((p.take j).flatten.length + c) ∧ l = [(0, .yld y), (10, .vals 1 (qs.map rowsA) b), (11, .int .i64 qs.length), (12, .int .i64 i), (16, .vals 1 (p.map ints) false), (17, .int .i64 p.length), (18, .int .i64 j), (22, .vals 1 (q.map (AV.int .i64)) false), (23, .int .i64 q.length), (24, .int .i64 c)]) ⟨q.length, 0, by omega, rfl, by omega, by simp only [go_sem]; rfl⟩ fun m3 l k ⟨c, hc, hm3, hk, e1⟩ => ?_
      subst e1; subst hk
      refine WJ.thn (by simp only [go_sem]; exact ⟨rfl, rfl⟩) ?_
      refine WJ.seq ?_
      refine WJ.ifB rfl (fun h3 => ?_) fun h3 => ?_
      ·
        simp only [decide_eq_true_eq] at h3
        have hc1 : c < q.length := by omega
        have hx0 : q[c]? = some q[c] := List.getElem?_eq_getElem hc1
        generalize q[c] = x at hx0
        have hf := flat3_at hp0 hq0 hx0
        refine WJ.skip ?_
        refine WJ.seq ?_
        refine WJ.block ?_
        refine WJ.thn (by simp only [go_sem, hc1, at0 hx0]; exact ⟨rfl, rfl⟩) ?_
        refine WJ.thn (by simp only [go_sem, List.getElem?_map, hf]; exact ⟨rfl, rfl⟩) ?_
        refine WJ.condF rfl ?_
        refine WJ.skip ?_
        refine WJ.lst (by simp only [go_sem, wrapS (show c < 4611686018427387904 by omega)]; exact ⟨rfl, rfl⟩) ?_
        refine ⟨_, q.length - (c + 1), rfl, by omega, c + 1, by omega, rfl, by omega, by simp only [go_sem]⟩
      ·
        simp only [decide_eq_false_iff_not] at h3
        refine WJ.exit ?_
        simp only [go_sem]
        refine WJ.lst (by simp only [go_sem, wrapS (show j < 4611686018427387904 by omega)]; exact ⟨rfl, rfl⟩) ?_
        have := flatten_take hq0
        refine ⟨_, p.length - (j + 1), rfl, by omega, j + 1, by omega, rfl, by omega, by simp only [go_sem]⟩
    ·
      simp only [decide_eq_false_iff_not] at h2
      refine WJ.exit ?_
      simp only [go_sem]
      refine WJ.lst (by simp only [go_sem, wrapS (show i < 4611686018427387904 by omega)]; exact ⟨rfl, rfl⟩) ?_
      have := flat3_take hp0
      have hjp : j = p.length := by omega
      rw [hjp, List.take_length]
      refine ⟨_, qs.length - (i + 1), rfl, by omega, i + 1, by omega, rfl, by omega, by simp only [go_sem]⟩
  ·
    simp only [decide_eq_false_iff_not] at h1
    refine WJ.exit ?_
    simp only [go_sem]
    exact ⟨.inl trivial, by rw [List.take_of_length_le (by omega)]⟩
end Go.Ab
end
section
set_option linter.unusedVariables false
set_option linter.unusedSimpArgs false
namespace Go.Ab
open Go.RowKit Go.Proofs

theorem WMR.thn {P : Program} {fn : Func} {R : Res} {id : Nat} {ops : Array Oper} {y : Code} {n : Nat} {l : List (Nat × AV)} {H H' : Heap} {ts' : List AV} (h : WP P (itemsG (dsts ops.toList) ops.toList) (E n l) H fun te He => te = ts' ∧ He = H') (hy : WMR P fn R y ts' H') : WMR P fn R (.seq (.region id ops false) y) (E n l) H :=
  WMR.seq (W.lst h ⟨rfl, hy⟩)
theorem WM.thn {P : Program} {fn : Func} {r : AV} {id : Nat} {ops : Array Oper} {y : Code} {n : Nat} {l : List (Nat × AV)} {H H' : Heap} {ts' : List AV} (h : WP P (itemsG (dsts ops.toList) ops.toList) (E n l) H fun te He => te = ts' ∧ He = H') (hy : WM P fn r y ts' H') : WM P fn r (.seq (.region id ops false) y) (E n l) H :=
  WM.seq (W.lst h ⟨rfl, hy⟩)

theorem pc229 (xs : List Int) : PureCall Tryz.prog 229 [ints xs] (.func 231 [] [.cptr [ints xs]]) := by
  refine pureCall Tryz.func229 rfl Tryz.ntmps229 rfl ?_
  simp only [go_sem]
  refine W.thn (by simp only [go_sem]; exact ⟨rfl, rfl⟩) ?_
  refine W.thn (by simp only [go_sem]; exact ⟨rfl, rfl⟩) ?_
  refine W.ret ⟨.inr rfl, _, res1 Tryz.results229, ?_⟩
  simp only [go_sem]
  exact Weak.refl _

/-- The value of a polynomial, the coefficient of 0 first. -/
def horner (m : Int) (xs : List Int) (x : Int) : Int := xs.foldr (fun c s => (s * x % m + c) % m) 0
theorem horner_has {m : Int} (hm : 2 ≤ m) (xs : List Int) (x : Int) : has m (horner m xs x) = true := by
  cases xs with
  | nil => simp [horner, has]; omega
  | cons c xs => exact has_mod hm
theorem pc225 (m x : Int) (xs : List Int) (hm : 2 ≤ m ∧ m ≤ 65521) (hx : has m x = true) (hxs : ∀ c, c ∈ xs → has m c = true) (hl : xs.length < 4611686018427387904) : PureCall Tryz.prog 225 [.int .i64 m, ints xs, .int .i64 x] (.int .i64 (horner m xs x)) := by
  refine pure_of_WM Tryz.func225 rfl Tryz.ntmps225 rfl ?_
  simp only [go_sem]
  refine WM.thn (by simp only [go_sem]; exact ⟨rfl, rfl⟩) ?_
  refine WM.thn (by simp only [go_sem]; exact ⟨rfl, rfl⟩) ?_
  refine WM.range (W.lst (by
      simp only [go_sem]
      refine WP_pc (pc229 xs) ent229 (by simp only [go_sem, aTarget]) rfl rfl ?_
      simp only [go_sem]
      exact ⟨rfl, rfl⟩) ⟨rfl, ?_⟩)
  refine ⟨231, [.cptr [ints xs]], backs xs, fun k H => H = [.blk [.int .i64 m] 1 false, .blk [.int .i64 x] 1 false, .blk [.int .i64 (horner m (xs.drop (xs.length - k)) x)] 1 false], by simp only [go_sem], gen231 xs false hl, fun a h => ?_, by simp [horner], fun k a Hk hk hi hle => ?_, fun HN hi hle => ?_⟩
  · unfold backs at h
    obtain ⟨k, _, rfl⟩ := List.mem_map.1 h
    rfl
  · subst hi
    have hkl : k < xs.length := by simpa [backs] using (List.getElem?_eq_some_iff.1 hk).1
    rw [backs_at hkl] at hk
    injection hk with hk
    subst hk
    simp only [setAll_E, List.zip_cons_cons, List.zip_nil_left, List.reverse_cons, List.reverse_nil, go_sem]
    have hc0 : xs.getD (xs.length - 1 - k) 0 = xs[xs.length - 1 - k] := by rw [List.getD_eq_getElem?_getD, List.getElem?_eq_getElem (by omega)]; rfl
    have hc : has m (xs.getD (xs.length - 1 - k) 0) = true := by rw [hc0]; exact hxs _ (List.getElem_mem _)
    generalize hce : xs.getD (xs.length - 1 - k) 0 = c at hc
    have hd : xs.drop (xs.length - (k + 1)) = c :: xs.drop (xs.length - k) := by
      rw [← hce, hc0, List.drop_eq_getElem_cons (show xs.length - (k + 1) < xs.length by omega)]
      congr 1
      · congr 1; omega
      · congr 1; omega
    have hh := horner_has (m := m) (by omega) (xs.drop (xs.length - k)) x
    have he : horner m (xs.drop (xs.length - (k + 1))) x = (horner m (xs.drop (xs.length - k)) x * x % m + c) % m := by rw [hd]; rfl
    rw [he]
    generalize horner m (xs.drop (xs.length - k)) x = s at hh
    refine W.lst (by simp only [go_sem]; exact ⟨rfl, rfl⟩) ⟨rfl, ?_⟩
    refine W.block ?_
    refine W.drawLst [0, 1, 2, 3, 4, 5, 6, 7] [.n, .n, .n, .n, .n, .n, .n, .s] [[], [], [], [], [1, 2, 3], [], [0, 1, 2, 3, 4, 5], [0, 1, 2, 3, 4, 5, 6]] rfl (by decide +kernel) (by
      simp only [go_sem]
      refine WP_pcn (pcMul m s x hm hh hx) ent129 (by simp only [go_sem, aTarget]) rfl rfl ?_
      simp only [go_sem]
      refine WP_pcn (pcAdd m (s * x % m) c hm (has_mod (by omega)) hc) ent130 (by simp only [go_sem, aTarget]) rfl rfl ?_
      simp only [go_sem]
      exact ⟨rfl, rfl⟩) ?_
    exact ⟨rfl, _, _, Le.refl _ _ _, rfl⟩
  · subst hi
    have e : (backs xs).length = xs.length := by simp [backs]
    rw [e, Nat.sub_self, List.drop_zero]
    refine W.thn (by simp only [go_sem]; exact ⟨rfl, rfl⟩) ?_
    refine W.ret ⟨.inr rfl, _, res1 Tryz.results225, ?_⟩
    simp only [go_sem]
    exact Weak.refl _

theorem pc181 (g : FuncId) (cap : List AV) (xs : List Int) (hg : Gen Tryz.prog g cap (xs.map fun x => [.int .i64 x])) (hl : xs.length ≤ 1000000) : PureCall Tryz.prog 181 [.nilSlice, .func g [] cap] (ints xs) := by
  refine pure_of_WM Tryz.func181 rfl Tryz.ntmps181 rfl ?_
  simp only [go_sem]
  refine WM.thn (by simp only [go_sem]; exact ⟨rfl, rfl⟩) ?_
  refine WM.range (W.lst (by simp only [go_sem]; exact ⟨rfl, rfl⟩) ⟨rfl, ?_⟩)
  refine ⟨g, cap, xs.map fun x => [.int .i64 x], fun k H => (k = 0 ∧ H = [.blk [.nilSlice] 1 false]) ∨ ∃ x, 0 < k ∧ H = [.blk [.slice 1 2 0 k k none] 1 false, .blk [x] 1 false, .blk ((xs.take k).map (AV.int .i64)) 1 false], by simp only [go_sem], hg, fun a h => ?_, .inl ⟨rfl, rfl⟩, fun k a Hk hk hi hle => ?_, fun HN hi hle => ?_⟩
  · obtain ⟨k, _, rfl⟩ := List.mem_map.1 h
    rfl
  · rw [List.getElem?_map] at hk
    obtain ⟨x, hx, rfl⟩ := Option.map_eq_some_iff.1 hk
    have hkl : k < xs.length := (List.getElem?_eq_some_iff.1 hx).1
    have htk : xs.take (k + 1) = xs.take k ++ [x] := by rw [List.take_add_one, hx]; rfl
    simp only [setAll_E, List.zip_cons_cons, List.zip_nil_left, List.reverse_cons, List.reverse_nil, go_sem]
    rcases hi with ⟨rfl, rfl⟩ | ⟨y, h0, rfl⟩
    · refine W.lst (by simp only [go_sem]; exact ⟨rfl, rfl⟩) ⟨rfl, ?_⟩
      refine W.block ?_
      refine W.lst (by simp only [go_sem]; exact ⟨rfl, rfl⟩) ?_
      refine ⟨rfl, _, _, Le.refl _ _ _, .inr ⟨.int .i64 x, by omega, ?_⟩⟩
      rw [htk]
      simp
    · have hlen : ((xs.take k).map (AV.int .i64)).length = k := by simp; omega
      have hk8 : (k + 1) * 8 ≤ 140737488355328 := by omega
      refine W.lst (by simp only [go_sem]; exact ⟨rfl, rfl⟩) ⟨rfl, ?_⟩
      refine W.block ?_
      refine W.lst (by simp only [go_sem, hlen, hk8, List.length_take, Nat.min_eq_left (Nat.le_of_lt hkl), show 1 ≤ k from h0, Nat.succ_ne_zero]; exact ⟨rfl, rfl⟩) ?_
      exact ⟨rfl, _, _, Le.lowerE 3 (by simp) (by simp), .inr ⟨_, by omega, by rw [htk, List.map_append]; simp only [go_sem, List.map_append]; rfl⟩⟩
  · simp only [List.length_map] at hi
    rcases hi with ⟨h0, rfl⟩ | ⟨y, h0, rfl⟩
    · have : xs = [] := List.eq_nil_of_length_eq_zero h0
      subst this
      refine W.thn (by simp only [go_sem]; exact ⟨rfl, rfl⟩) ?_
      refine W.ret ⟨.inr rfl, _, res1 Tryz.results181, ?_⟩
      simp only [go_sem]
      exact Weak.nilSlice 1
    · refine W.thn (by simp only [go_sem]; exact ⟨rfl, rfl⟩) ?_
      refine W.ret ⟨.inr rfl, _, res1 Tryz.results181, ?_⟩
      rw [List.take_length]
      simp only [go_sem, show ¬ xs.length = 0 by omega, show 1 ≤ xs.length by omega, List.take_length]
      rw [List.take_of_length_le (by simp), pv_map_int (k := 6)]
      exact Weak.vals _ _ _
end Go.Ab
end
section
set_option linter.unusedVariables false
set_option linter.unusedSimpArgs false
namespace Go.Ab
open Go.RowKit Go.Proofs

/-- A function that changes blocks that it was handed: blocks that it leaves behind come last. -/
theorem soundCall {P : Program} {f : FuncId} {fn : Func} {c : Code} {args : List AV} {H H' : Heap} {r : AV} {n : Nat} (hf : P.funcs[f]? = some fn) (hb : fn.body = some c) (hn : fn.ntmps = n) (hl : decide (args.length ≤ n) = true)
    (h : W P H.length c (E n (argsE 0 args)) H fun e ts H1 => (e = .normal ∨ e = .ret) ∧ aResults P fn ts H1 = some r ∧ H1 = H' ∧ H.length ≤ H'.length) : SoundCall P f args H r H' :=
  sound_keep hf hb (W.from (by subst hn; exact .le (Le.temps (weakL_args args _ (of_decide_eq_true hl))) h))

/-- What is seen, as a list of numbers. -/
theorem pc169 (ss : List Int) (qs : List (List (List Int))) : PureCall Tryz.prog 169 [.agg [ints ss, cubeA qs]] (.func 182 [] [.cptr [ints ss, cubeA qs]]) := by
  refine pureCall Tryz.func169 rfl Tryz.ntmps169 rfl ?_
  simp only [go_sem]
  refine W.thn (by simp only [go_sem]; exact ⟨rfl, rfl⟩) ?_
  refine W.thn (by simp only [go_sem]; exact ⟨rfl, rfl⟩) ?_
  refine W.ret ⟨.inr rfl, _, res1 Tryz.results169, ?_⟩
  simp only [go_sem]
  exact Weak.refl _
theorem pc168 (g : FuncId) (cap : List AV) (xs : List Int) (hg : Gen Tryz.prog g cap (xs.map fun x => [.int .i64 x])) (hl : xs.length ≤ 1000000) : PureCall Tryz.prog 168 [.func g [] cap] (ints xs) := by
  refine pureCall Tryz.func168 rfl Tryz.ntmps168 rfl ?_
  simp only [go_sem]
  -- 0: t2 := assign(slice(none, 0, 0))
  refine W.thn (by simp only [go_sem]; exact ⟨rfl, rfl⟩) ?_
  -- 1: t3 := move(t0); t4 := call(value(F181<slices.AppendSeq[[]int,int]>)[slice(none, 0, 0), t3]); t2 := assign(t4)
  refine W.thn (by
    simp only [go_sem]
    refine WP_pc (pc181 g cap xs hg hl) ent181 (by simp only [go_sem, aTarget]) (by simp only [pureBs, AV.pureB, hg.2.1]; rfl) rfl ?_
    simp only [go_sem]
    exact ⟨rfl, rfl⟩) ?_
  refine W.ret ⟨.inr rfl, _, res1 Tryz.results168, ?_⟩
  simp only [go_sem]
  exact Weak.refl _

theorem pc150 (ss : List Int) (qs : List (List (List Int))) (hl : qs.length < 4611686018427387904) (hl2 : ∀ p, p ∈ qs → p.length < 4611686018427387904) (hl3 : ∀ p, p ∈ qs → ∀ q, q ∈ p → q.length < 4611686018427387904) (hf : (flat3 qs).length ≤ 1000000) :
    PureCall Tryz.prog 150 [.agg [ints ss, cubeA qs]] (ints (flat3 qs)) := by
  refine pureCall Tryz.func150 rfl Tryz.ntmps150 rfl ?_
  simp only [go_sem]
  -- 0: t1 := box(49, t0); t2 := assign(slice(none, 0, 0))
  refine W.thn (by simp only [go_sem]; exact ⟨rfl, rfl⟩) ?_
  -- 1: t3 := load(49, t1); t4 := call(value(F169<view.numbers>)[t3]); t5 := call(value(F168<slices.Collect[int]>)[t4]); t2 := assign(t5)
  refine W.thn (by
    simp only [go_sem]
    refine WP_pc (pc169 ss qs) ent169 (by simp only [go_sem, aTarget]) rfl rfl ?_
    simp only [go_sem]
    refine WP_pc (pc168 182 [.cptr [ints ss, cubeA qs]] (flat3 qs) (gen182 (ints ss) qs false hl hl2 hl3 rfl) hf) ent168 (by simp only [go_sem, aTarget]) rfl rfl ?_
    simp only [go_sem]
    exact ⟨rfl, rfl⟩) ?_
  refine W.ret ⟨.inr rfl, _, res1 Tryz.results150, ?_⟩
  simp only [go_sem]
  exact Weak.refl _

/-- x times l is added. -/
def addT (m x : Int) (a l : List Int) : List Int := List.zipWith (fun u v => (u + x * v % m) % m) a l
theorem set_back {α : Type} {xs : List α} {j : Nat} {v : α} (h : j < xs.length) : xs.take j ++ [v] ++ xs.drop (j + 1) = xs.set j v := by
  rw [List.append_assoc, List.cons_append, List.nil_append, List.set_eq_take_append_cons_drop, if_pos h]
theorem zip_step {α β γ : Type} (f : α → β → γ) (k : α → γ) {a : List α} {l : List β} {j : Nat} {u : α} {v : β} (ha : a[j]? = some u) (hl : l[j]? = some v) :
    ((List.zipWith f a l).take j ++ (a.drop j).map k).set j (f u v) = (List.zipWith f a l).take (j + 1) ++ (a.drop (j + 1)).map k := by
  obtain ⟨h1, e1⟩ := List.getElem?_eq_some_iff.1 ha
  obtain ⟨h2, e2⟩ := List.getElem?_eq_some_iff.1 hl
  have hlen : ((List.zipWith f a l).take j).length = j := by simp; omega
  have hd : a.drop j = u :: a.drop (j + 1) := by rw [List.drop_eq_getElem_cons h1, e1]
  rw [List.set_append_right _ _ (by omega), hlen, Nat.sub_self, List.take_add_one, hd]
  have : (List.zipWith f a l)[j]? = some (f u v) := by rw [List.getElem?_zipWith, ha, hl]
  rw [this]
  simp [-List.map_drop]
theorem sc175 (m x : Int) (a l : List Int) (hm : 2 ≤ m ∧ m ≤ 65521) (hx : has m x = true) (ha : ∀ c, c ∈ a → has m c = true) (hl : ∀ c, c ∈ l → has m c = true) (hlen : a.length = l.length) (hn : a.length ≤ 1000000)
    (H : Heap) (b mv : Nat) (cap : Option Nat) (hb : H[b]? = some (.blk (a.map (AV.int .i64)) mv false)) (hmv : mv ≤ a.length) :
    SoundCall Tryz.prog 175 [.int .i64 m, .slice 1 b 0 a.length a.length cap, .int .i64 x, ints l] H (.tuple []) (if a.length = 0 then H else H.set b (.blk ((addT m x a l).map (AV.int .i64)) a.length false)) := by
  have hbl : b < H.length := (List.getElem?_eq_some_iff.1 hb).1
  refine soundCall Tryz.func175 rfl Tryz.ntmps175 rfl ?_
  simp only [go_sem]
  -- 0: t10 := move(t3); t11 := call(builtin(len)[t10]); t12 := move(0)
  refine W.thn (by simp only [go_sem]; exact ⟨rfl, rfl⟩) ?_
  refine W.block ?_
  refine W.loopE [0, 1, 2, 10, 11, 12] (fun k l' H' => ∃ j : Nat, j ≤ a.length ∧ k = a.length - j ∧ l' = [(0, .int .i64 m), (1, .slice 1 b 0 a.length a.length cap), (2, .int .i64 x), (10, .vals 1 (l.map (AV.int .i64)) false), (11, .int .i64 l.length), (12, .int .i64 j)] ∧
    (if j = 0 then H' = H else H' = H.set b (.blk (((addT m x a l).take j ++ (a.drop j).map id).map (AV.int .i64)) a.length false))) ⟨a.length, 0, by omega, by omega, by simp only [go_sem]; rfl, by simp⟩ fun k l' H' ⟨j, hj, hk, e1, e2⟩ => ?_
  subst e1
  -- 1: t13 := (lss, 3, t12, t11, 3)
  refine W.thn (by simp only [go_sem]; exact ⟨rfl, rfl⟩) ?_
  refine W.seq ?_
  refine W.ifB rfl (fun h1 => ?_) fun h1 => ?_ -- t13
  ·
    simp only [decide_eq_true_eq] at h1
    have hjl : j < l.length := by omega
    have hja : j < a.length := by omega
    have hv0 : l[j]? = some l[j] := List.getElem?_eq_getElem hjl
    have hvm : has m l[j] = true := hl _ (List.getElem_mem _)
    generalize l[j] = v at hv0 hvm
    have hu0 : a[j]? = some a[j] := List.getElem?_eq_getElem hja
    have hum : has m a[j] = true := ha _ (List.getElem_mem _)
    generalize a[j] = u at hu0 hum
    have hjI : (j : Int) < (a.length : Int) := by omega
    have hLe : H'.length ≤ H.length := by
      split at e2
      · rw [e2]; exact Nat.le_refl _
      · rw [e2, List.length_set]; exact Nat.le_refl _
    obtain ⟨cs, mv', hH, hcl, hmv', hcu, hnext⟩ : ∃ (cs : List AV) (mv' : Nat), H'[b]? = some (.blk cs mv' false) ∧ cs.length = a.length ∧ mv' ≤ a.length ∧ cs[j]? = some (.int .i64 u) ∧ H'.set b (.blk (cs.set j (.int .i64 ((u + x * v % m) % m))) a.length false) = H.set b (.blk (((addT m x a l).take (j + 1) ++ (a.drop (j + 1)).map id).map (AV.int .i64)) a.length false) := by
      have hz := zip_step (fun u v => (u + x * v % m) % m) id hu0 hv0
      by_cases h0 : j = 0
      · subst h0
        rw [if_pos rfl] at e2
        subst e2
        refine ⟨_, _, hb, by simp, hmv, by simp [hu0], ?_⟩
        rw [show addT m x a l = List.zipWith (fun u v => (u + x * v % m) % m) a l from rfl, ← hz]
        simp
      · rw [if_neg h0] at e2
        subst e2
        have hz2 : (addT m x a l).length = a.length := by simp [addT, hlen]
        refine ⟨_, _, List.getElem?_set_self hbl, by simp [hz2]; omega, Nat.le_refl _, ?_, ?_⟩
        · rw [List.getElem?_map, List.getElem?_append_right (by simp [hz2]; omega)]
          simp [hz2, Nat.min_eq_left hj, hu0]
        · rw [List.set_set, show addT m x a l = List.zipWith (fun u v => (u + x * v % m) % m) a l from rfl, ← hz, List.map_set]
    refine W.skip ?_
    refine W.seq ?_
    refine W.block ?_
    -- 2: t14 := move(t12); t15 := indexAddr(33, t10, t12); t16 := load(3, t15); t8 := assign(t14); t9 := assign(t16)
    refine W.thn (by simp only [go_sem, hjl, at0 hv0]; exact ⟨rfl, rfl⟩) ?_
    -- 3: t17 := move(t1); t18 := move(t8); t19 := move(t0); t20 := move(t1); t21 := move(t8); t22 := indexAddr(33, t20, t21); t23 := load(3, t22); t24 := move(t0); t25 := move(t2); t26 := move(t9); t27 := call(value(F129<residue.Field).Mul>)[t24, t25, t26]); t28 := call(value(F130<residue.Field).Add>)[t19, t23, t27]); t29 := indexAddr(33, t17, t18); _ := store(3, t29, t28)
    refine W.drawLst [0, 1, 2, 3, 4, 5, 6, 7, 8, 9, 10, 11, 12, 13] [.n, .n, .n, .n, .n, .n, .n, .n, .n, .n, .n, .n, .n, .s] [[], [], [], [], [], [3, 4], [3, 4, 5], [], [], [], [7, 8, 9], [2, 3, 4, 5, 6, 7, 8, 9, 10], [0, 1, 2, 3, 4, 5, 6, 7, 8, 9, 10, 11], [0, 1, 2, 3, 4, 5, 6, 7, 8, 9, 10, 11, 12]] rfl (by decide +kernel) (by
      simp only [go_sem, hjI, hja, hH, hmv', hcu, show j + 1 ≤ a.length from hja]
      refine WP_pcn (pcMul m x v hm hx hvm) ent129 (by simp only [go_sem, aTarget]) rfl rfl ?_ -- call(value(F129<residue.Field).Mul>)[t24, t25, t26])
      simp only [go_sem]
      refine WP_pcn (pcAdd m u (x * v % m) hm hum (has_mod (by omega))) ent130 (by simp only [go_sem, aTarget]) rfl rfl ?_ -- call(value(F130<residue.Field).Add>)[t19, t23, t27])
      simp only [go_sem, hjI, hja, hH, hcl, show j + 1 ≤ a.length from hja, set_back (show j < cs.length by omega), hnext, List.length_set, hLe]
      exact ⟨rfl, rfl⟩) ?_
    -- 4: t30 := (add, 3, t12, 1, 3); t12 := move(t30)
    refine W.lst (by simp only [go_sem, wrapS (show j < 4611686018427387904 by omega)]; exact ⟨rfl, rfl⟩) ?_
    refine ⟨_, a.length - (j + 1), rfl, by omega, j + 1, by omega, by omega, by simp only [go_sem], by simp⟩
  ·
    simp only [decide_eq_false_iff_not] at h1
    refine W.exit ?_ -- to 0
    have hja : j = a.length := by omega
    subst hja
    have hfin : H' = (if a.length = 0 then H else H.set b (.blk ((addT m x a l).map (AV.int .i64)) a.length false)) := by
      by_cases h0 : a.length = 0
      · rw [if_pos h0] at e2 ⊢; exact e2
      · rw [if_neg h0] at e2 ⊢
        rw [e2, List.take_of_length_le (by simp [addT, hlen])]
        simp
    rw [← hfin]
    refine ⟨.inl rfl, res0 Tryz.results175, rfl, ?_⟩
    rw [hfin]
    split <;> simp
end Go.Ab
end
section
set_option linter.unusedVariables false
set_option linter.unusedSimpArgs false
namespace Go.Ab
open Go.RowKit Go.Proofs

theorem Weak.valsL {sz : Nat} {xs ys : List AV} {b : Bool} (h : WeakL xs ys) : Weak (.vals sz xs b) (.vals sz ys false) := fun φ v e => by
  have e := Weak.vals sz xs b φ v e
  cases e with
  | vals hk hx hl hC ha =>
    have hx' := h.ok hx
    exact .vals hk hx' (by rw [hx'.length, ← hx.length]; exact hl) hC ha
theorem Weak.cptr {xs ys : List AV} (h : WeakL xs ys) : Weak (.cptr xs) (.cptr ys) := fun φ v e => by
  cases e with
  | cptr hk hx => exact .cptr hk (h.ok hx)
theorem Weak.func {f : FuncId} {a a' b b' : List AV} (h : WeakL a a') (k : WeakL b b') : Weak (.func f a b) (.func f a' b') := fun φ v e => by
  cases e with
  | func h1 h2 => exact .func (h.ok h1) (k.ok h2)

theorem pc240 (rs : List (List Int)) : PureCall Tryz.prog 240 [rowsA rs] (.func 241 [] [.cptr [rowsA rs]]) := by
  refine pureCall Tryz.func240 rfl Tryz.ntmps240 rfl ?_
  simp only [go_sem]
  refine W.thn (by simp only [go_sem]; exact ⟨rfl, rfl⟩) ?_
  refine W.thn (by simp only [go_sem]; exact ⟨rfl, rfl⟩) ?_
  refine W.ret ⟨.inr rfl, _, res1 Tryz.results240, ?_⟩
  simp only [go_sem]
  exact Weak.refl _

def sumRows (m : Int) (n : Nat) (rs : List (List Int)) : List Int := rs.foldl (fun a l => addT m 1 a l) (List.replicate n 0)
theorem addT_length {m x : Int} {a l : List Int} (h : l.length = a.length) : (addT m x a l).length = a.length := by simp [addT, h]
theorem addT_has {m x : Int} (hm : 2 ≤ m) {a l : List Int} : ∀ c, c ∈ addT m x a l → has m c = true := fun c hc => by
  unfold addT at hc
  obtain ⟨i, hi, rfl⟩ := List.mem_iff_getElem.1 hc
  rw [List.getElem_zipWith]
  exact has_mod hm
theorem sumRows_next (m : Int) (n : Nat) {rs : List (List Int)} {k : Nat} {l : List Int} (h : rs[k]? = some l) : sumRows m n (rs.take (k + 1)) = addT m 1 (sumRows m n (rs.take k)) l := by
  rw [List.take_add_one, h]
  simp [sumRows]
theorem sumRows_ok {m : Int} (hm : 2 ≤ m) {n : Nat} : ∀ {rs : List (List Int)}, (∀ l, l ∈ rs → l.length = n) → (sumRows m n rs).length = n ∧ ∀ c, c ∈ sumRows m n rs → has m c = true := fun {rs} h => by
  have key : ∀ (rs : List (List Int)) (a : List Int), (∀ l, l ∈ rs → l.length = n) → a.length = n → (∀ c, c ∈ a → has m c = true) → (rs.foldl (fun a l => addT m 1 a l) a).length = n ∧ ∀ c, c ∈ rs.foldl (fun a l => addT m 1 a l) a → has m c = true := fun rs => by
    induction rs with
    | nil => exact fun a _ h1 h2 => ⟨h1, h2⟩
    | cons l rs ih =>
      intro a h h1 h2
      refine ih _ (fun l' hl' => h l' (List.mem_cons_of_mem _ hl')) ?_ (addT_has hm)
      rw [addT_length (by rw [h l List.mem_cons_self, h1]), h1]
  exact key rs _ h (by simp) fun c hc => by rw [(List.mem_replicate.1 hc).2]; simp [has]; omega
theorem flat_ints : ∀ l : List Int, flatBs (l.map (AV.int .i64)) = true
  | [] => rfl
  | x :: l => by simp only [List.map_cons, flatBs, AV.flatB, flat_ints l]; rfl
theorem rc239 (m : Int) (n : Nat) (rs : List (List Int)) (hm : 2 ≤ m ∧ m ≤ 65521) (hn : 1 ≤ n ∧ n ≤ 1000000) (hl : rs.length < 1000000) (hr : ∀ l, l ∈ rs → l.length = n) (hh : ∀ l, l ∈ rs → ∀ c, c ∈ l → has m c = true) :
    RCall Tryz.prog 239 [.int .i64 m, .int .i64 n, .func 241 [] [.cptr [rowsA rs]]] (isNew (ints (sumRows m n rs))) := by
  refine rcall_of_WMR Tryz.func239 rfl Tryz.ntmps239 rfl ?_
  simp only [go_sem]
  refine WMR.thn (by simp only [go_sem]; exact ⟨rfl, rfl⟩) ?_
  have hn8 : ((8 : Nat) : Int) * (n : Int) ≤ 281474976710656 := by omega
  refine WMR.thn (by simp only [go_sem, hn8, Int.le_refl]; exact ⟨rfl, rfl⟩) ?_
  refine WMR.range (W.lst (by simp only [go_sem]; exact ⟨rfl, rfl⟩) ⟨rfl, ?_⟩)
  refine ⟨241, [.cptr [rowsA rs]], rs.map fun r => [ints r], fun k H => ∃ mv, mv ≤ n ∧ H = [.blk [.int .i64 m] 1 false, .blk ((sumRows m n (rs.take k)).map (AV.int .i64)) mv false, .blk [.slice 1 1 0 n n (some n)] 1 false], by simp only [go_sem], ?_, fun a h => ?_, ?_, fun k a Hk hk hi hle => ?_, fun HN hi hle => ?_⟩
  · have := gen241 (rs.map ints) false (by rw [List.length_map]; omega) (by
      have : ∀ l : List (List Int), pureBs (l.map ints) = true := fun l => by induction l <;> simp_all [pureBs, AV.pureB, ints]
      exact this rs)
    rw [List.map_map] at this
    exact this
  · obtain ⟨k, _, rfl⟩ := List.mem_map.1 h
    rfl
  · exact ⟨n, Nat.le_refl _, by simp [sumRows]⟩
  · obtain ⟨mv, hmv, rfl⟩ := hi
    rw [List.getElem?_map] at hk
    obtain ⟨l, hx, rfl⟩ := Option.map_eq_some_iff.1 hk
    have hlm : l ∈ rs := List.mem_of_getElem? hx
    obtain ⟨hacc, hacch⟩ := sumRows_ok (m := m) (by omega) (n := n) (rs := rs.take k) fun l hl => hr l (List.mem_of_mem_take hl)
    have hnx := sumRows_next m n hx
    generalize sumRows m n (rs.take k) = acc at hacc hacch hnx
    simp only [setAll_E, List.zip_cons_cons, List.zip_nil_left, List.reverse_cons, List.reverse_nil, go_sem]
    refine W.lst (by simp only [go_sem]; exact ⟨rfl, rfl⟩) ⟨rfl, ?_⟩
    refine W.block ?_
    have hlen : acc.length = l.length := by rw [hacc, hr l hlm]
    have hc := sc175 m 1 acc l hm (by simp [has]; omega) hacch (hh l hlm) hlen (by omega) [.blk [.int .i64 m] 1 false, .blk (acc.map (AV.int .i64)) mv false, .blk [.slice 1 1 0 n n (some n)] 1 false] 1 mv (some n) rfl (by omega)
    rw [if_neg (by omega), hacc] at hc
    refine W.lst (by
      simp only [go_sem]
      refine WP_call_s (by simp only [go_sem, aTarget]) ent175 hc (by simp) ?_
      simp only [go_sem]
      exact ⟨rfl, rfl⟩) ?_
    exact ⟨rfl, _, _, Le.refl _ _ _, n, Nat.le_refl _, by rw [hnx]⟩
  · obtain ⟨mv, hmv, rfl⟩ := hi
    obtain ⟨hacc, _⟩ := sumRows_ok (m := m) (by omega) (n := n) (rs := rs) hr
    rw [List.length_map, List.take_length]
    generalize sumRows m n rs = acc at hacc
    refine W.thn (by simp only [go_sem]; exact ⟨rfl, rfl⟩) ?_
    refine W.ret ⟨.inr rfl, _, res1 Tryz.results239, ?_⟩
    simp only [go_sem]
    have hcl : (acc.map (AV.int .i64)).length = n := by simpa using hacc
    have hf := Fin.ofSlice (h := [.blk [.int .i64 m] 1 false, .blk (acc.map (AV.int .i64)) mv false, .blk [.slice 1 1 0 n n (some n)] 1 false]) (sz := 1) (b := 1) (off := 0) (len := n) (ver := n) (cap := some n) rfl hmv (by omega) (by omega) (by rw [Nat.mul_one, List.drop_zero, List.take_of_length_le (by omega)]; exact flat_ints acc)
    rw [Nat.mul_one, List.drop_zero, List.take_of_length_le (by omega)] at hf
    exact hf.weak (Weak.vals _ _ _)
theorem pc239 (m : Int) (n : Nat) (rs : List (List Int)) (hm : 2 ≤ m ∧ m ≤ 65521) (hn : 1 ≤ n ∧ n ≤ 1000000) (hl : rs.length < 1000000) (hr : ∀ l, l ∈ rs → l.length = n) (hh : ∀ l, l ∈ rs → ∀ c, c ∈ l → has m c = true) :
    PureCall Tryz.prog 239 [.int .i64 m, .int .i64 n, .func 241 [] [.cptr [rowsA rs]]] (ints (sumRows m n rs)) := (rc239 m n rs hm hn hl hr hh).old
end Go.Ab
end
section
set_option linter.unusedVariables false
set_option linter.unusedSimpArgs false
namespace Go.Ab
open Go.RowKit Go.Proofs

def limOk (n : Int) : Bool := decide (1 ≤ n ∧ n ≤ 2147483647)
theorem pc161 (n : Int) : PureCall Tryz.prog 161 [.int .i64 n] (.bool (limOk n)) := by
  refine pureCall Tryz.func161 rfl Tryz.ntmps161 rfl ?_
  simp only [go_sem]
  -- 0: t2 := assign(false)
  refine W.thn (by simp only [go_sem]; exact ⟨rfl, rfl⟩) ?_
  -- 1: t3 := move(t0); t4 := (geq, 3, t3, 1, 3); t5 := move(t4); t6 := move(t0) Gsome((2, true)); t7 := (leq, 3, t6, 2147483647, 3) Gsome((2, true)); t8 := pick(t5, t7, false); t2 := assign(t8)
  refine W.thnK fun K hK => ?_
  simp only [go_sem]
  refine guardW_t (fun h1 => ?_) fun h1 => ?_
  ·
    simp only [go_sem, h1]
    refine hK _ _ ?_
    refine W.ret ⟨.inr rfl, _, res1 Tryz.results161, ?_⟩
    simp only [go_sem, h1]
    exact Weak.of_eq (congrArg AV.bool (Bool.eq_iff_iff.2 (by simp only [limOk, w64eq, Bool.and_eq_true, Bool.or_eq_true, Bool.not_eq_true', decide_eq_true_eq, decide_eq_false_iff_not, Bool.false_eq_true, true_iff, false_iff, iff_true, iff_false] at h1 ⊢; omega)))
  ·
    simp only [go_sem, h1]
    refine hK _ _ ?_
    refine W.ret ⟨.inr rfl, _, res1 Tryz.results161, ?_⟩
    simp only [go_sem, h1]
    exact Weak.of_eq (congrArg AV.bool (Bool.eq_iff_iff.2 (by simp only [limOk, w64eq, Bool.and_eq_true, Bool.or_eq_true, Bool.not_eq_true', decide_eq_true_eq, decide_eq_false_iff_not, Bool.false_eq_true, true_iff, false_iff, iff_true, iff_false] at h1 ⊢; omega)))
def tapeOk (xs : List Int) (at_ : Int) : Bool := decide (xs.length ≤ 16384 ∧ 0 ≤ at_ ∧ at_ ≤ xs.length)
def tapeA (xs : List Int) (at_ : Int) : AV := .agg [ints xs, .int .i64 at_]
@[go_sem] theorem tapeA_eq (xs : List Int) (at_ : Int) : tapeA xs at_ = .agg [ints xs, .int .i64 at_] := rfl
theorem pc227 (xs : List Int) (at_ : Int) : PureCall Tryz.prog 227 [tapeA xs at_] (.bool (tapeOk xs at_)) := by
  refine pureCall Tryz.func227 rfl Tryz.ntmps227 rfl ?_
  simp only [go_sem]
  -- 0: t1 := box(43, t0); t2 := assign(false)
  refine W.thn (by simp only [go_sem]; exact ⟨rfl, rfl⟩) ?_
  -- 1: t3 := fieldAddr(43, t1, 0); t4 := load(33, t3); t5 := call(builtin(len)[t4]); t6 := (leq, 3, t5, 16384, 3); t7 := move(t6); t8 := fieldAddr(43, t1, 1) Gsome((4, true)); t9 := load(3, t8) Gsome((4, true)); t10 := (geq, 3, t9, 0, 3) Gsome((4, true)); t11 := pick(t7, t10, false); t12 := move(t11); t13 := fieldAddr(43, t1, 1) Gsome((9, true)); t14 := load(3, t13) Gsome((9, true)); t15 := fieldAddr(43, t1, 0) Gsome((9, true)); t16 := load(33, t15) Gsome((9, true)); t17 := call(builtin(len)[t16]) Gsome((9, true)); t18 := (leq, 3, t14, t17, 3) Gsome((9, true)); t19 := pick(t12, t18, false); t2 := assign(t19)
  refine W.thnK fun K hK => ?_
  simp only [go_sem]
  refine guardW_t (fun h1 => ?_) fun h1 => ?_
  ·
    simp only [go_sem, h1]
    refine guardW_t (fun h2 => ?_) fun h2 => ?_
    ·
      simp only [go_sem, h1, h2]
      refine hK _ _ ?_
      refine W.ret ⟨.inr rfl, _, res1 Tryz.results227, ?_⟩
      simp only [go_sem, h1, h2]
      exact Weak.of_eq (congrArg AV.bool (Bool.eq_iff_iff.2 (by simp only [tapeOk, w64eq, Bool.and_eq_true, Bool.or_eq_true, Bool.not_eq_true', decide_eq_true_eq, decide_eq_false_iff_not, Bool.false_eq_true, true_iff, false_iff, iff_true, iff_false] at h1 h2 ⊢; omega)))
    ·
      simp only [go_sem, h1, h2]
      refine hK _ _ ?_
      refine W.ret ⟨.inr rfl, _, res1 Tryz.results227, ?_⟩
      simp only [go_sem, h1, h2]
      exact Weak.of_eq (congrArg AV.bool (Bool.eq_iff_iff.2 (by simp only [tapeOk, w64eq, Bool.and_eq_true, Bool.or_eq_true, Bool.not_eq_true', decide_eq_true_eq, decide_eq_false_iff_not, Bool.false_eq_true, true_iff, false_iff, iff_true, iff_false] at h1 h2 ⊢; omega)))
  ·
    simp only [go_sem, h1]
    refine hK _ _ ?_
    refine W.ret ⟨.inr rfl, _, res1 Tryz.results227, ?_⟩
    simp only [go_sem, h1]
    exact Weak.of_eq (congrArg AV.bool (Bool.eq_iff_iff.2 (by simp only [tapeOk, w64eq, Bool.and_eq_true, Bool.or_eq_true, Bool.not_eq_true', decide_eq_true_eq, decide_eq_false_iff_not, Bool.false_eq_true, true_iff, false_iff, iff_true, iff_false] at h1 ⊢; omega)))

section
variable (xs : List Int) (k : Nat) (n : Int) (H : Heap) (b mv : Nat) (d : AV)
theorem sc230_short (hb : H[b]? = some (.blk [.vals 1 (xs.map (AV.int .i64)) false, .int .i64 k, d] mv false)) (hmv : mv ≤ 3) (hk : k = xs.length) : SoundCall Tryz.prog 230 [.ptr b 0 3, .int .i64 n] H (.tuple [.int .i64 0, .int .i64 3]) H := by
  subst hk
  refine soundCall Tryz.func230 rfl Tryz.ntmps230 rfl ?_
  simp only [go_sem]
  refine W.thn (by simp only [go_sem]; exact ⟨rfl, rfl⟩) ?_
  refine W.seq ?_
  refine W.drawThn [0, 1, 2, 3, 4, 5, 6, 7, 8, 9] [.n, .n, .n, .n, .n, .n, .n, .n, .n, .n] [[], [0], [0, 1], [0, 1, 2], [], [4], [4, 5], [4, 5, 6], [4, 5, 6, 7], [0, 1, 2, 3, 4, 5, 6, 7, 8]] rfl (by decide +kernel) (by simp only [go_sem, hb, hmv]; exact ⟨rfl, rfl⟩) ?_
  refine W.condT (by simp only [go_sem]) ?_
  refine W.thn (by simp only [go_sem]; exact ⟨rfl, rfl⟩) ?_
  refine W.ret ⟨.inr rfl, ?_, rfl⟩
  rw [res2 Tryz.results230]
  simp only [go_sem]
theorem sc230_bad {x : Int} (hb : H[b]? = some (.blk [.vals 1 (xs.map (AV.int .i64)) false, .int .i64 k, d] mv false)) (hmv : mv ≤ 3) (hx : xs[k]? = some x) (hxn : ¬(0 ≤ x ∧ x < n)) : SoundCall Tryz.prog 230 [.ptr b 0 3, .int .i64 n] H (.tuple [.int .i64 0, .int .i64 8]) H := by
  have hk : k < xs.length := (List.getElem?_eq_some_iff.1 hx).1
  have hne : ((k : Int) = (xs.length : Int)) = False := by simp; omega
  refine soundCall Tryz.func230 rfl Tryz.ntmps230 rfl ?_
  simp only [go_sem]
  refine W.thn (by simp only [go_sem]; exact ⟨rfl, rfl⟩) ?_
  refine W.seq ?_
  refine W.drawThn [0, 1, 2, 3, 4, 5, 6, 7, 8, 9] [.n, .n, .n, .n, .n, .n, .n, .n, .n, .n] [[], [0], [0, 1], [0, 1, 2], [], [4], [4, 5], [4, 5, 6], [4, 5, 6, 7], [0, 1, 2, 3, 4, 5, 6, 7, 8]] rfl (by decide +kernel) (by simp only [go_sem, hb, hmv]; exact ⟨rfl, rfl⟩) ?_
  refine W.condF (by simp only [go_sem, hne]) ?_
  refine W.skip ?_
  refine W.drawThn [0, 1, 2, 3, 4, 5, 6, 7, 8, 9, 10] [.n, .n, .n, .n, .n, .n, .n, .n, .n, .n, .n] [[], [0], [0, 1], [0, 1, 2], [], [4], [4, 5], [4, 5, 6], [0, 1, 2, 3, 4, 5, 6, 7], [0, 1, 2, 3, 4, 5, 6, 7, 8], [0, 1, 2, 3, 4, 5, 6, 7, 8, 9]] rfl (by decide +kernel) (by simp only [go_sem, hb, hmv, hk, at0 hx]; exact ⟨rfl, rfl⟩) ?_
  refine W.seq ?_
  by_cases h2 : x < 0
  · refine W.thn (by simp only [go_sem, h2]; exact ⟨rfl, rfl⟩) ?_
    refine W.condT (by simp only [go_sem, h2]) ?_
    refine W.thn (by simp only [go_sem]; exact ⟨rfl, rfl⟩) ?_
    refine W.ret ⟨.inr rfl, ?_, rfl⟩
    rw [res2 Tryz.results230]
    simp only [go_sem]
  · have h3 : n ≤ x := by omega
    refine W.thn (by simp only [go_sem, h2, h3]; exact ⟨rfl, rfl⟩) ?_
    refine W.condT (by simp only [go_sem, h3]) ?_
    refine W.thn (by simp only [go_sem]; exact ⟨rfl, rfl⟩) ?_
    refine W.ret ⟨.inr rfl, ?_, rfl⟩
    rw [res2 Tryz.results230]
    simp only [go_sem]
theorem sc230_ok {x : Int} (hb : H[b]? = some (.blk [.vals 1 (xs.map (AV.int .i64)) false, .int .i64 k, d] mv false)) (hmv : mv ≤ 3) (hd : d.one = true) (hx : xs[k]? = some x) (hxn : 0 ≤ x ∧ x < n) (hl : xs.length ≤ 1000000) : SoundCall Tryz.prog 230 [.ptr b 0 3, .int .i64 n] H (.tuple [.int .i64 x, .int .i64 0]) (H.set b (.blk [.vals 1 (xs.map (AV.int .i64)) false, .int .i64 (k + 1 : Nat), d] 3 false)) := by
  have hk : k < xs.length := (List.getElem?_eq_some_iff.1 hx).1
  have hne : ((k : Int) = (xs.length : Int)) = False := by simp; omega
  have h2 : ¬ x < 0 := by omega
  have h3 : ¬ n ≤ x := by omega
  refine soundCall Tryz.func230 rfl Tryz.ntmps230 rfl ?_
  simp only [go_sem]
  refine W.thn (by simp only [go_sem]; exact ⟨rfl, rfl⟩) ?_
  refine W.seq ?_
  refine W.drawThn [0, 1, 2, 3, 4, 5, 6, 7, 8, 9] [.n, .n, .n, .n, .n, .n, .n, .n, .n, .n] [[], [0], [0, 1], [0, 1, 2], [], [4], [4, 5], [4, 5, 6], [4, 5, 6, 7], [0, 1, 2, 3, 4, 5, 6, 7, 8]] rfl (by decide +kernel) (by simp only [go_sem, hb, hmv]; exact ⟨rfl, rfl⟩) ?_
  refine W.condF (by simp only [go_sem, hne]) ?_
  refine W.skip ?_
  refine W.drawThn [0, 1, 2, 3, 4, 5, 6, 7, 8, 9, 10] [.n, .n, .n, .n, .n, .n, .n, .n, .n, .n, .n] [[], [0], [0, 1], [0, 1, 2], [], [4], [4, 5], [4, 5, 6], [0, 1, 2, 3, 4, 5, 6, 7], [0, 1, 2, 3, 4, 5, 6, 7, 8], [0, 1, 2, 3, 4, 5, 6, 7, 8, 9]] rfl (by decide +kernel) (by simp only [go_sem, hb, hmv, hk, at0 hx]; exact ⟨rfl, rfl⟩) ?_
  refine W.seq ?_
  refine W.thn (by simp only [go_sem, h2, h3]; exact ⟨rfl, rfl⟩) ?_
  refine W.condF (by simp only [go_sem, h3]) ?_
  refine W.skip ?_
  refine W.thn (by simp only [go_sem, hb, hmv, wrapS (show k < 4611686018427387904 by omega), hd, List.length_set]; exact ⟨rfl, rfl⟩) ?_
  refine W.thn (by simp only [go_sem]; exact ⟨rfl, rfl⟩) ?_
  refine W.ret ⟨.inr rfl, ?_, rfl, by simp⟩
  rw [res2 Tryz.results230]
  simp only [go_sem]
end
end Go.Ab
end
section
set_option linter.unusedVariables false
set_option linter.unusedSimpArgs false
namespace Go.Ab
open Go.RowKit Go.Proofs

/-- How many numbers are drawn, and the error. -/
def okN (n : Int) : Nat → List Int → Nat
  | c + 1, x :: l => if 0 ≤ x ∧ x < n then okN n c l + 1 else 0
  | _, _ => 0
def drawE (n : Int) : Nat → List Int → Int
  | 0, _ => 0
  | c + 1, [] => 3
  | c + 1, x :: l => if 0 ≤ x ∧ x < n then drawE n c l else 8
theorem drawE_zero {n : Int} : ∀ {c : Nat} {l : List Int}, drawE n c l = 0 → c ≤ l.length ∧ okN n c l = c ∧ ∀ x, x ∈ l.take c → 0 ≤ x ∧ x < n
  | 0, l, _ => ⟨Nat.zero_le _, by cases l <;> rfl, fun x h => by simp at h⟩
  | c + 1, [], h => by simp [drawE] at h
  | c + 1, x :: l, h => by
    simp only [drawE] at h
    split at h
    · rename_i hx
      obtain ⟨h1, h2, h3⟩ := drawE_zero h
      refine ⟨by simp; omega, by simp only [okN, hx, and_self, if_true, h2], fun y hy => ?_⟩
      rw [List.take_succ_cons, List.mem_cons] at hy
      rcases hy with rfl | hy
      · exact hx
      · exact h3 y hy
    · omega
theorem draw_at {n : Int} : ∀ {c j : Nat} {l : List Int}, j < c → (∀ i x, i < j → l[i]? = some x → 0 ≤ x ∧ x < n) → j ≤ l.length →
    (∀ x, l[j]? = some x → ¬(0 ≤ x ∧ x < n) → okN n c l = j ∧ drawE n c l = 8) ∧ (l[j]? = none → okN n c l = j ∧ drawE n c l = 3)
  | c + 1, 0, l, _, _, _ => by
    cases l with
    | nil => exact ⟨fun x h => by simp at h, fun _ => ⟨rfl, rfl⟩⟩
    | cons y l => exact ⟨fun x h hn => by simp at h; subst h; simp only [okN, drawE, hn, if_false]; exact ⟨trivial, trivial⟩, fun h => by simp at h⟩
  | c + 1, j + 1, l, hj, h, hl => by
    cases l with
    | nil => simp at hl
    | cons y l =>
      have hy := h 0 y (by omega) rfl
      have ih := draw_at (n := n) (c := c) (j := j) (l := l) (by omega) (fun i x hi hx => h (i + 1) x (by omega) (by simpa using hx)) (by simpa using hl)
      simp only [okN, drawE, hy, and_self, if_true, List.getElem?_cons_succ]
      exact ⟨fun x hx hn => by have := ih.1 x hx hn; omega, fun hx => by have := ih.2 hx; omega⟩
theorem draw_all {n : Int} : ∀ {c : Nat} {l : List Int}, (∀ i x, i < c → l[i]? = some x → 0 ≤ x ∧ x < n) → c ≤ l.length → okN n c l = c ∧ drawE n c l = 0
  | 0, l, _, _ => ⟨by cases l <;> rfl, rfl⟩
  | c + 1, [], _, hl => by simp at hl
  | c + 1, y :: l, h, hl => by
    have hy := h 0 y (by omega) rfl
    have ih := draw_all (n := n) (c := c) (l := l) (fun i x hi hx => h (i + 1) x (by omega) (by simpa using hx)) (by simpa using hl)
    simp only [okN, drawE, hy, and_self, if_true]
    exact ⟨by omega, ih.2⟩

def numsA (xs : List Int) : AV := .vals 1 (xs.map (AV.int .i64)) false
@[go_sem] theorem numsA_eq (xs : List Int) : numsA xs = .vals 1 (xs.map (AV.int .i64)) false := rfl
/-- The memory when j numbers have been drawn. -/
def drawH (xs : List Int) (k j : Nat) : Heap :=
  .blk [.vals 1 (xs.map (AV.int .i64)) false, .int .i64 k] 2 false :: .blk [.nilSlice, .int .i64 0] 2 false ::
  (if j = 0 then [.blk [.vals 1 (xs.map (AV.int .i64)) false, .int .i64 k, .nilSlice] 3 false] else
    [.blk [.vals 1 (xs.map (AV.int .i64)) false, .int .i64 (k + j : Nat), .slice 1 4 0 j j none] 3 false, .blk [.int .i64 (xs.getD k 0)] 1 false, .blk (((xs.drop k).take j).map (AV.int .i64)) 1 false])
theorem sc228 (xs : List Int) (k : Nat) (n : Int) (c : Nat) (hk : k ≤ xs.length) (hl : xs.length ≤ 1000000) (hc : c ≤ 1000000000) :
    SoundCall Tryz.prog 228 [.ptr 2 0 3, .int .i64 n, .int .i64 c] (drawH xs k 0) (.int .i64 (drawE n c (xs.drop k))) (drawH xs k (okN n c (xs.drop k))) := by
  refine soundCall Tryz.func228 rfl Tryz.ntmps228 rfl ?_
  simp only [go_sem]
  have hH0 : (drawH xs k 0).length = 3 := rfl
  have hle : ∀ j, 3 ≤ (drawH xs k j).length := fun j => by unfold drawH; split <;> simp
  refine W.thn (by simp only [go_sem]; exact ⟨rfl, rfl⟩) ?_
  refine W.seq ?_
  refine W.thn (by simp only [go_sem]; exact ⟨rfl, rfl⟩) ?_
  refine W.block ?_
  refine W.loopEL [0, 1, 2, 7] 5 (by rw [hH0]; decide) (fun m l H => ∃ j : Nat, j ≤ c ∧ j ≤ (xs.drop k).length ∧ m = c - j ∧ (∀ i x, i < j → (xs.drop k)[i]? = some x → 0 ≤ x ∧ x < n) ∧ l = [(0, .ptr 2 0 3), (1, .int .i64 n), (2, .int .i64 c), (7, .int .i64 j)] ∧ H = drawH xs k j) ⟨c, 0, by omega, by omega, by omega, fun i x h => by omega, by simp only [go_sem]; rfl, rfl⟩ fun m l H ⟨j, hj, hjl, hm, hok, e1, e2⟩ => ?_
  subst e1
  refine W.seq ?_
  refine W.thn (by simp only [go_sem]; exact ⟨rfl, rfl⟩) ?_
  refine W.ifB rfl (fun h1 => ?_) fun h1 => ?_ -- t12
  ·
    simp only [decide_eq_true_eq] at h1
    have hjc : j < c := by omega
    refine W.skip ?_
    refine W.seq ?_
    refine W.block ?_
    obtain ⟨dv, hb, hone⟩ : ∃ dv, H[2]? = some (.blk [.vals 1 (xs.map (AV.int .i64)) false, .int .i64 (k + j : Nat), dv] 3 false) ∧ dv.one = true := by
      rw [e2]; unfold drawH
      split
      · rename_i h0; subst h0; exact ⟨_, rfl, rfl⟩
      · exact ⟨_, rfl, rfl⟩
    have hd : (xs.drop k)[j]? = xs[k + j]? := by rw [List.getElem?_drop]
    rcases hxj : xs[k + j]? with _ | x
    · -- too few
      have hkj : k + j = xs.length := by
        have := List.getElem?_eq_none_iff.1 hxj
        simp at hjl; omega
      obtain ⟨o1, o2⟩ := (draw_at hjc hok hjl).2 (hd.trans hxj)
      have hc := sc230_short xs (k + j) n H 2 3 dv hb (by omega) hkj
      refine W.thn (by
        simp only [go_sem]
        refine WP_call_s (by simp only [go_sem, aTarget]) ent230 hc (Nat.le_refl _) ?_
        simp only [go_sem]
        exact ⟨rfl, rfl⟩) ?_
      refine W.seq ?_
      refine W.thn (by simp only [go_sem]; exact ⟨rfl, rfl⟩) ?_
      refine W.condT (by simp only [go_sem]) ?_
      refine W.thn (by simp only [go_sem]; exact ⟨rfl, rfl⟩) ?_
      refine W.ret ⟨.inr rfl, ?_, by rw [o1]; exact e2, by rw [hH0]; exact hle _⟩
      rw [res1 Tryz.results228, o2]
      simp only [go_sem]
    · by_cases hxn : 0 ≤ x ∧ x < n
      · have hc := sc230_ok xs (k + j) n H 2 3 dv hb (by omega) hone hxj hxn hl
        have hlen : H.length ≤ (H.set 2 (.blk [.vals 1 (xs.map (AV.int .i64)) false, .int .i64 (k + j + 1 : Nat), dv] 3 false)).length := by simp
        have htk : (xs.drop k).take (j + 1) = (xs.drop k).take j ++ [x] := by rw [List.take_add_one, hd, hxj]; rfl
        refine W.thn (by
          simp only [go_sem]
          refine WP_call_s (by simp only [go_sem, aTarget]) ent230 hc hlen ?_
          simp only [go_sem]
          exact ⟨rfl, rfl⟩) ?_
        refine W.seq ?_
        refine W.thn (by simp only [go_sem]; exact ⟨rfl, rfl⟩) ?_
        refine W.condF (by simp only [go_sem]) ?_
        refine W.skip ?_
        have hjl' : j + 1 ≤ (xs.drop k).length := by
          have := (List.getElem?_eq_some_iff.1 hxj).1
          simp; omega
        have hok' : ∀ i y, i < j + 1 → (xs.drop k)[i]? = some y → 0 ≤ y ∧ y < n := fun i y hi hy => by
          rcases Nat.lt_or_ge i j with h' | h'
          · exact hok i y h' hy
          · have e : i = j := by omega
            subst e
            rw [hd, hxj] at hy
            rw [← Option.some.inj hy]; exact hxn
        by_cases h0 : j = 0
        · subst h0
          rw [show drawH xs k 0 = [.blk [.vals 1 (xs.map (AV.int .i64)) false, .int .i64 k] 2 false, .blk [.nilSlice, .int .i64 0] 2 false, .blk [.vals 1 (xs.map (AV.int .i64)) false, .int .i64 k, .nilSlice] 3 false] from rfl] at e2
          subst e2
          have hdv : dv = .nilSlice := by
            simp at hb; exact hb.symm
          subst hdv
          have w1 : IntKind.i64.wrap (((0 : Nat) : Int) + 1) = ((1 : Nat) : Int) := rfl
          refine W.lst (by simp only [go_sem]; exact ⟨rfl, rfl⟩) ?_
          refine W.lst (by simp only [go_sem, w1]; exact ⟨rfl, rfl⟩) ?_
          refine ⟨_, c - 1, rfl, by omega, by simp, 1, by omega, hjl', rfl, hok', by simp only [go_sem], ?_⟩
          have hg : xs.getD k 0 = x := by rw [List.getD_eq_getElem?_getD]; simp at hxj; rw [hxj]; rfl
          simp only [go_sem, drawH, htk, hg]
        · have hlr : (((xs.drop k).take j).map (AV.int .i64)).length = j := by simp at hjl ⊢; omega
          have hj8 : (j + 1) * 8 ≤ 140737488355328 := by simp at hjl; omega
          unfold drawH at e2
          rw [if_neg h0] at e2
          subst e2
          have hdv : dv = .slice 1 4 0 j j none := by
            simp at hb; exact hb.symm
          subst hdv
          have e2 : ((xs.drop k).take j).length = j := by simp at hlr ⊢; omega
          refine W.lst (by simp only [go_sem, hlr, e2, hj8, show 1 ≤ j by omega, Nat.succ_ne_zero]; exact ⟨rfl, rfl⟩) ?_
          refine W.lst (by simp only [go_sem, wrapS (show j < 4611686018427387904 by omega)]; exact ⟨rfl, rfl⟩) ?_
          refine ⟨_, c - (j + 1), rfl, by omega, by simp, j + 1, by omega, hjl', rfl, hok', by simp only [go_sem], ?_⟩
          simp only [go_sem, drawH, htk, List.map_append, Nat.succ_ne_zero]
          rfl
      · obtain ⟨o1, o2⟩ := (draw_at hjc hok hjl).1 x (hd.trans hxj) hxn
        have hc := sc230_bad xs (k + j) n H 2 3 dv hb (by omega) hxj hxn
        refine W.thn (by
          simp only [go_sem]
          refine WP_call_s (by simp only [go_sem, aTarget]) ent230 hc (Nat.le_refl _) ?_
          simp only [go_sem]
          exact ⟨rfl, rfl⟩) ?_
        refine W.seq ?_
        refine W.thn (by simp only [go_sem]; exact ⟨rfl, rfl⟩) ?_
        refine W.condT (by simp only [go_sem]) ?_
        refine W.thn (by simp only [go_sem]; exact ⟨rfl, rfl⟩) ?_
        refine W.ret ⟨.inr rfl, ?_, by rw [o1]; exact e2, by rw [hH0]; exact hle _⟩
        rw [res1 Tryz.results228, o2]
        simp only [go_sem]
  ·
    simp only [decide_eq_false_iff_not] at h1
    have hjc : j = c := by omega
    subst hjc
    obtain ⟨o1, o2⟩ := draw_all hok hjl
    refine W.exit ?_ -- to 0
    refine W.thn (by simp only [go_sem]; exact ⟨rfl, rfl⟩) ?_
    refine W.ret ⟨.inr rfl, ?_, by rw [o1]; exact e2, by rw [hH0]; exact hle _⟩
    rw [res1 Tryz.results228, o2]
    simp only [go_sem]
end Go.Ab
end
section
set_option linter.unusedVariables false
set_option linter.unusedSimpArgs false
namespace Go.Ab
open Go.RowKit Go.Proofs

theorem W.drawThnC {P : Program} {n0 : N0} {Q : Ex → List AV → Heap → Prop} {n : Nat} {l : List (Nat × AV)} {H : Heap} {ts' : List AV} {H' : Heap} {id : Nat} {ops : Array Oper} {y : Code} (ord : List Nat) (kds : List Kd) (bs : List (List Nat)) (p : Nat) (qs : List Nat) (hm : P.follows .mixedOrders = true) (hs : schedOk ops ord kds bs ((posns (p + 1) qs).map fun f => (p, f)) = true)
    {it : Item} {l' : List Item} (hd : (itemsO (dsts ops.toList) ops.toList ord kds).drop p = it :: l') (h : WP P ((itemsO (dsts ops.toList) ops.toList ord kds).take p) (E n l) H (Chk P it qs l' fun te He => te = ts' ∧ He = H')) (hy : W P n0 y ts' H' Q) : W P n0 (.seq (.region id ops true) y) (E n l) H Q := by
  rw [itemsO_eq] at hd h
  refine .seq ((W.drawC ord kds bs p qs hm hs hd (Q := fun e te He => e = .normal ∧ te = ts' ∧ He = H') (by simpa using h)).weaken fun e te He ⟨e1, e2, e3⟩ => ?_)
  subst e1; subst e2; subst e3; exact hy
section
variable {P : Program} {fn : Func} {ts : List AV} {H : Heap} {a b c : Nat} {t : TypeId} {r : AV}
theorem resC (h : fn.results = #[.cell a t]) (hv : aLoad P t (look ts (.tmp a)) H = some r) : aResults P fn ts H = some r := resCell h hv
theorem resCT (h : fn.results = #[.cell a t, .tmp b]) (hv : aLoad P t (look ts (.tmp a)) H = some r) : aResults P fn ts H = some (.tuple [r, look ts (.tmp b)]) := by
  have hv' : aLoad P t (ts.getD a undefA) H = some r := hv
  simp only [aResults, h, List.toList_toArray, aResultL, aResult, hv']; rfl
theorem resCTT (h : fn.results = #[.cell a t, .tmp b, .tmp c]) (hv : aLoad P t (look ts (.tmp a)) H = some r) : aResults P fn ts H = some (.tuple [r, look ts (.tmp b), look ts (.tmp c)]) := by
  have hv' : aLoad P t (ts.getD a undefA) H = some r := hv
  simp only [aResults, h, List.toList_toArray, aResultL, aResult, hv']; rfl
theorem resTCT (h : fn.results = #[.tmp b, .cell a t, .tmp c]) (hv : aLoad P t (look ts (.tmp a)) H = some r) : aResults P fn ts H = some (.tuple [look ts (.tmp b), r, look ts (.tmp c)]) := by
  have hv' : aLoad P t (ts.getD a undefA) H = some r := hv
  simp only [aResults, h, List.toList_toArray, aResultL, aResult, hv']; rfl
end
attribute [go_sem] Segs posns
theorem drawH_1 (xs : List Int) (k j : Nat) : (drawH xs k j)[1]? = some (.blk [.nilSlice, .int .i64 0] 2 false) := rfl
theorem drawH_0 (xs : List Int) (k j : Nat) : (drawH xs k j)[0]? = some (.blk [.vals 1 (xs.map (AV.int .i64)) false, .int .i64 k] 2 false) := rfl
theorem drawH_len (xs : List Int) (k j : Nat) : 3 ≤ (drawH xs k j).length := by unfold drawH; split <;> simp

def drawsErr (xs : List Int) (k n c : Int) : Int := if tapeOk xs k = true then (if limOk n = true ∧ 0 ≤ c then drawE n c.toNat (xs.drop k.toNat) else 1) else 2
def drawsTape (xs : List Int) (k n c : Int) : AV := if drawsErr xs k n c = 0 then tapeA xs (k + c) else tapeA [] 0
def drawsOf (xs : List Int) (k n c : Int) : List Int := if drawsErr xs k n c = 0 then (xs.drop k.toNat).take c.toNat else []
def drawsA (xs : List Int) (k n c : Int) : AV := .tuple [drawsTape xs k n c, ints (drawsOf xs k n c), .int .i64 (drawsErr xs k n c)]
theorem drawsA_err {xs : List Int} {k n c e : Int} (h : drawsErr xs k n c = e) (he : e ≠ 0) : Weak (.tuple [.agg [.nilSlice, .int .i64 0], .nilSlice, .int .i64 e]) (drawsA xs k n c) := by
  have h0 : drawsErr xs k n c ≠ 0 := by rw [h]; exact he
  unfold drawsA drawsTape drawsOf
  rw [if_neg h0, if_neg h0, h]
  exact Weak.tuple (.cons (Weak.agg (.cons (Weak.nilSlice 1) (.cons (Weak.refl _) .nil))) (.cons (Weak.nilSlice 1) (.cons (Weak.refl _) .nil)))
set_option maxRecDepth 100000 in
theorem pc223 (xs : List Int) (k n c : Int) (hc : c ≤ 1000000000) : PureCall Tryz.prog 223 [tapeA xs k, .int .i64 n, .int .i64 c] (drawsA xs k n c) := by
  refine pureCall Tryz.func223 rfl Tryz.ntmps223 rfl ?_
  simp only [go_sem]
  -- 0: t3 := box(43, t0); t6 := alloc(43); t7 := assign(slice(none, 0, 0)); t8 := assign(0)
  refine W.thn (by simp only [go_sem]; exact ⟨rfl, rfl⟩) ?_
  refine W.seq ?_
  -- 1: t11 := load(43, t3); t12 := call(value(F227<tape.valid>)[t11]); t13 := unOp(not, 4, t12)
  refine W.thn (by
    simp only [go_sem]
    refine WP_pc (pc227 xs k) ent227 (by simp only [go_sem, aTarget]) rfl rfl ?_ -- call(value(F227<tape.valid>)[t11])
    simp only [go_sem]
    exact ⟨rfl, rfl⟩) ?_
  refine W.ifNB rfl (fun h1 => ?_) fun h1 => ?_ -- t13
  ·
    -- 2: t14 := build(43, []); _ := store(43, t6, t14); t7 := assign(slice(none, 0, 0)); t8 := assign(2)
    refine W.thn (by simp only [go_sem, h1]; exact ⟨rfl, rfl⟩) ?_
    refine W.ret ⟨.inr rfl, _, resCTT Tryz.results223 (by simp only [go_sem, h1]; rfl), ?_⟩
    simp only [go_sem, h1]
    exact drawsA_err (by simp only [drawsErr, h1]; simp) (by omega)
  ·
    refine W.skip ?_
    refine W.seq ?_
    -- 3: t15 := move(t1); t16 := call(value(F161<tape.limit>)[t15]); t17 := unOp(not, 4, t16); t18 := move(t17); t19 := move(t2) Gsome((3, false)); t20 := (lss, 3, t19, 0, 3) Gsome((3, false)); t21 := pick(t18, true, t20)
    refine W.thnK fun K hK => ?_
    simp only [go_sem, h1]
    refine WP_pc (pc161 n) ent161 (by simp only [go_sem, aTarget]) rfl rfl ?_ -- call(value(F161<tape.limit>)[t15])
    simp only [go_sem, h1]
    refine guardW_nf (fun h2 => ?_) fun h2 => ?_
    ·
      simp only [go_sem, h1, h2]
      refine hK _ _ ?_
      refine W.ifB rfl (fun h3 => ?_) fun h3 => ?_ -- t21
      ·
        -- 4: t22 := build(43, []); _ := store(43, t6, t22); t7 := assign(slice(none, 0, 0)); t8 := assign(1)
        refine W.thn (by simp only [go_sem, h1, h2, h3]; exact ⟨rfl, rfl⟩) ?_
        refine W.ret ⟨.inr rfl, _, resCTT Tryz.results223 (by simp only [go_sem, h1, h2, h3]; rfl), ?_⟩
        simp only [go_sem, h1, h2, h3]
        have hc0 : ¬ 0 ≤ c := by simpa using h3
        exact drawsA_err (by simp only [drawsErr, h1, h2, hc0]; simp) (by omega)
      ·
        refine W.skip ?_
        have hv : tapeOk xs k = true := by simpa using h1
        have hv2 := hv
        simp only [tapeOk, decide_eq_true_eq] at hv2
        obtain ⟨kn, rfl⟩ : ∃ kn : Nat, k = kn := ⟨k.toNat, by omega⟩
        have hn : limOk n = true := by simpa using h2
        have hc0 : 0 ≤ c := by simpa using h3
        obtain ⟨cn, rfl⟩ : ∃ cn : Nat, c = cn := ⟨c.toNat, by omega⟩
        have hsc := sc228 xs kn n cn (by omega) (by omega) (by omega)
        have hle2 : (drawH xs kn 0).length ≤ (drawH xs kn (okN n cn (xs.drop kn))).length := drawH_len _ _ _
        have hde : drawsErr xs kn n cn = drawE n cn (xs.drop kn) := by simp only [drawsErr, hv, hn]; simp
        -- 5: t23 := fieldAddr(43, t3, 0); t24 := load(33, t23); t25 := fieldAddr(43, t3, 1); t26 := load(3, t25); t27 := build(267, [(0, t24), (1, t26)]); t28 := build(269, [(0, t27)]); t29 := box(269, t28); t9 := assign(t29)
        refine W.thn (by simp only [go_sem, h1, h2, h3]; exact ⟨rfl, rfl⟩) ?_
        refine W.seq ?_
        -- 6: t30 := move(t9); t31 := move(t1); t32 := move(t2); t33 := call(value(F228<tape.drawing).draw>)[t30, t31, t32]); t10 := assign(t33)
        refine W.thn (by
          simp only [go_sem, h1, h2, h3]
          refine WP_call_s (by simp only [go_sem, aTarget]) ent228 hsc hle2 ?_ -- call(value(F228<tape.drawing).draw>)[t30, t31, t32])
          simp only [go_sem, h1, h2, h3]
          exact ⟨rfl, rfl⟩) ?_
        -- 7: t34 := move(t10); t35 := (neq, 37, t34, 0, 37)
        refine W.thn (by simp only [go_sem, h1, h2, h3]; exact ⟨rfl, rfl⟩) ?_
        refine W.ifNB rfl (fun h4 => ?_) fun h4 => ?_ -- t35
        ·
          have he : drawE n cn (xs.drop kn) ≠ 0 := by simpa using h4
          refine W.thn (by simp only [go_sem, drawH_1, List.length_set]; exact ⟨rfl, rfl⟩) ?_
          refine W.ret ⟨.inr rfl, _, resCTT Tryz.results223 (by simp only [go_sem]; rfl), ?_⟩
          simp only [go_sem]
          exact drawsA_err hde he
        ·
          have he : drawE n cn (xs.drop kn) = 0 := by simpa using h4
          obtain ⟨hcl, hok, hmem⟩ := drawE_zero he
          have hda : drawsA xs kn n cn = .tuple [tapeA xs (kn + cn), ints ((xs.drop kn).take cn), .int .i64 0] := by
            unfold drawsA drawsTape drawsOf
            rw [hde, he]; rfl
          rw [hda, hok]
          have hclone : PureCall Tryz.prog 109 [ints xs] (ints xs) := pc109 xs (by omega)
          refine W.skip ?_
          by_cases h0 : cn = 0
          · subst h0
            rw [show drawH xs kn 0 = [.blk [.vals 1 (xs.map (AV.int .i64)) false, .int .i64 kn] 2 false, .blk [.nilSlice, .int .i64 0] 2 false, .blk [.vals 1 (xs.map (AV.int .i64)) false, .int .i64 kn, .nilSlice] 3 false] from rfl]
            refine W.drawThnC [0, 1, 2, 3, 4, 5, 6, 7, 8, 9, 10, 11, 12, 13, 14, 15] [.n, .n, .n, .n, .n, .n, .n, .n, .n, .n, .n, .n, .n, .s, .n, .n] [[], [0], [0, 1], [], [3], [3, 4], [3, 4, 5], [3, 4, 5, 6], [0, 1, 2, 3, 4, 5, 6, 7], [], [9], [9, 10], [9, 10, 11], [0, 1, 2, 3, 4, 5, 6, 7, 8], [0, 1, 2, 3, 4, 5, 6, 7, 8, 9, 10, 11, 12, 13], [0, 1, 2, 3, 4, 5, 6, 7, 8, 9, 10, 11, 12, 13, 14]] 12 [3] rfl (by decide +kernel) rfl (by
              simp only [go_sem]
              refine WP_pcn hclone ent109 (by simp only [go_sem, aTarget]) rfl rfl ?_
              simp only [go_sem]
              refine ⟨rfl, rfl, rfl, rfl, _, rfl, by decide, ?_⟩
              simp only [go_sem]
              exact ⟨rfl, rfl, rfl⟩) ?_
            refine W.ret ⟨.inr rfl, _, resCTT Tryz.results223 (by simp only [go_sem]; rfl), ?_⟩
            simp only [go_sem]
            refine Weak.tuple (.cons (Weak.of_eq (by simp)) (.cons (Weak.nilSlice 1) (.cons (Weak.refl _) .nil)))
          · have hlr : (((xs.drop kn).take cn).map (AV.int .i64)).length = cn := by simp at hcl ⊢; omega
            have e2 : ((xs.drop kn).take cn).length = cn := by simp at hcl ⊢; omega
            rw [show drawH xs kn cn = [.blk [.vals 1 (xs.map (AV.int .i64)) false, .int .i64 kn] 2 false, .blk [.nilSlice, .int .i64 0] 2 false, .blk [.vals 1 (xs.map (AV.int .i64)) false, .int .i64 (kn + cn : Nat), .slice 1 4 0 cn cn none] 3 false, .blk [.int .i64 (xs.getD kn 0)] 1 false, .blk (((xs.drop kn).take cn).map (AV.int .i64)) 1 false] by unfold drawH; rw [if_neg h0]]
            generalize (xs.drop kn).take cn = ys at hlr e2
            refine W.drawThnC [0, 1, 2, 3, 4, 5, 6, 7, 8, 9, 10, 11, 12, 13, 14, 15] [.n, .n, .n, .n, .n, .n, .n, .n, .n, .n, .n, .n, .n, .s, .n, .n] [[], [0], [0, 1], [], [3], [3, 4], [3, 4, 5], [3, 4, 5, 6], [0, 1, 2, 3, 4, 5, 6, 7], [], [9], [9, 10], [9, 10, 11], [0, 1, 2, 3, 4, 5, 6, 7, 8], [0, 1, 2, 3, 4, 5, 6, 7, 8, 9, 10, 11, 12, 13], [0, 1, 2, 3, 4, 5, 6, 7, 8, 9, 10, 11, 12, 13, 14]] 12 [3] rfl (by decide +kernel) rfl (by
              simp only [go_sem]
              refine WP_pcn hclone ent109 (by simp only [go_sem, aTarget]) rfl rfl ?_
              simp only [go_sem]
              refine ⟨rfl, rfl, rfl, rfl, _, rfl, by decide, ?_⟩
              simp only [go_sem]
              exact ⟨rfl, rfl, rfl⟩) ?_
            refine W.ret ⟨.inr rfl, _, resCTT Tryz.results223 (by simp only [go_sem]; rfl), ?_⟩
            simp only [go_sem, h0, show 1 ≤ cn by omega]
            rw [List.take_of_length_le (Nat.le_of_eq hlr), pv_map_int (k := 5)]
            exact Weak.tuple (.cons (Weak.of_eq (by simp)) (.cons (Weak.vals _ _ _) (.cons (Weak.refl _) .nil)))
    ·
      simp only [go_sem, h1, h2]
      refine hK _ _ ?_
      refine W.condT rfl ?_
      -- 4: t22 := build(43, []); _ := store(43, t6, t22); t7 := assign(slice(none, 0, 0)); t8 := assign(1)
      refine W.thn (by simp only [go_sem, h1, h2]; exact ⟨rfl, rfl⟩) ?_
      refine W.ret ⟨.inr rfl, _, resCTT Tryz.results223 (by simp only [go_sem, h1, h2]; rfl), ?_⟩
      simp only [go_sem, h1, h2]
      exact drawsA_err (by simp only [drawsErr, h1, h2]; simp) (by omega)

end Go.Ab
end
section
set_option linter.unusedVariables false
set_option linter.unusedSimpArgs false
namespace Go.Ab
open Go.RowKit Go.Proofs

def thrOk (n : Int) : Bool := decide (0 ≤ n ∧ n ≤ 9)
theorem pc250 (n : Int) : PureCall Tryz.prog 250 [.int .i64 n] (.bool (thrOk n)) := by
  refine pureCall Tryz.func250 rfl Tryz.ntmps250 rfl ?_
  simp only [go_sem]
  -- 0: t2 := assign(false)
  refine W.thn (by simp only [go_sem]; exact ⟨rfl, rfl⟩) ?_
  -- 1: t3 := move(t0); t4 := (geq, 3, t3, 0, 3); t5 := move(t4); t6 := move(t0) Gsome((2, true)); t7 := (leq, 3, t6, 9, 3) Gsome((2, true)); t8 := pick(t5, t7, false); t2 := assign(t8)
  refine W.thnK fun K hK => ?_
  simp only [go_sem]
  refine guardW_t (fun h1 => ?_) fun h1 => ?_
  ·
    simp only [go_sem, h1]
    refine hK _ _ ?_
    refine W.ret ⟨.inr rfl, _, res1 Tryz.results250, ?_⟩
    simp only [go_sem, h1]
    exact Weak.of_eq (congrArg AV.bool (Bool.eq_iff_iff.2 (by simp only [thrOk, w64eq, Bool.and_eq_true, Bool.or_eq_true, Bool.not_eq_true', decide_eq_true_eq, decide_eq_false_iff_not, Bool.false_eq_true, true_iff, false_iff, iff_true, iff_false] at h1 ⊢; omega)))
  ·
    simp only [go_sem, h1]
    refine hK _ _ ?_
    refine W.ret ⟨.inr rfl, _, res1 Tryz.results250, ?_⟩
    simp only [go_sem, h1]
    exact Weak.of_eq (congrArg AV.bool (Bool.eq_iff_iff.2 (by simp only [thrOk, w64eq, Bool.and_eq_true, Bool.or_eq_true, Bool.not_eq_true', decide_eq_true_eq, decide_eq_false_iff_not, Bool.false_eq_true, true_iff, false_iff, iff_true, iff_false] at h1 ⊢; omega)))
def unitL (n a : Nat) : List Int := (List.replicate n (0 : Int)).set a 1
theorem pc238 (p : Int) (n a : Nat) (hp : fieldOk p = true) (hn : n ≤ 1024) (ha : a < n) : PureCall Tryz.prog 238 [.agg [.int .i64 p], .int .i64 n, .int .i64 a] (.tuple [ints (unitL n a), .int .i64 0]) := by
  refine pureCall Tryz.func238 rfl Tryz.ntmps238 rfl ?_
  have hn1 : ((n : Int) < 0) = False := eq_false (by omega)
  have hn2 : ((n : Int) > 1024) = False := eq_false (by omega)
  have hn3 : ((1024 : Int) < n) = False := eq_false (by omega)
  have ha1 : ((a : Int) < 0) = False := eq_false (by omega)
  have ha2 : ((n : Int) ≤ a) = False := eq_false (by omega)
  have ha3 : ((a : Int) < n) = True := eq_true (by omega)
  have hn8 : ((8 : Nat) : Int) * (n : Int) ≤ 281474976710656 := by omega
  have ha4 : a + 1 ≤ n := ha
  have hn0 : (n = 0) = False := eq_false (by omega)
  have hsb : (List.replicate n (AV.int .i64 0)).take a ++ [AV.int .i64 1] ++ (List.replicate n (AV.int .i64 0)).drop (a + 1) = (List.replicate n (AV.int .i64 0)).set a (AV.int .i64 1) := set_back (by simpa using ha)
  simp only [go_sem]
  -- 0: t3 := box(30, t0); t6 := assign(slice(none, 0, 0)); t7 := assign(0)
  refine W.thn (by simp only [go_sem, hp, hn1, hn2, hn3, ha1, ha2, ha3, ha4, hn8, Int.le_refl, List.length_replicate, hn0, hsb, List.length_set]; exact ⟨rfl, rfl⟩) ?_
  refine W.seq ?_
  -- 1: t12 := load(30, t3); t13 := call(value(F126<residue.Of>)[t12]); t11 := move(t13); t14 := extract(t11, 0); t15 := extract(t11, 1); t8 := assign(t14); t9 := assign(t15)
  refine W.thn (by
    simp only [go_sem, hp, hn1, hn2, hn3, ha1, ha2, ha3, ha4, hn8, Int.le_refl, List.length_replicate, hn0, hsb, List.length_set]
    refine WP_pc (pc126 p) ent126 (by simp only [go_sem, aTarget]) rfl rfl ?_ -- call(value(F126<residue.Of>)[t12])
    simp only [go_sem, hp, hn1, hn2, hn3, ha1, ha2, ha3, ha4, hn8, Int.le_refl, List.length_replicate, hn0, hsb, List.length_set]
    exact ⟨rfl, rfl⟩) ?_
  -- 2: t16 := move(t9); t17 := unOp(not, 4, t16)
  refine W.thn (by simp only [go_sem, hp, hn1, hn2, hn3, ha1, ha2, ha3, ha4, hn8, Int.le_refl, List.length_replicate, hn0, hsb, List.length_set]; exact ⟨rfl, rfl⟩) ?_
  refine W.condF (by simp only [go_sem, hp, hn1, hn2, hn3, ha1, ha2, ha3, ha4, hn8, Int.le_refl, List.length_replicate, hn0, hsb, List.length_set]) ?_
  refine W.skip ?_
  refine W.seq ?_
  -- 4: t18 := move(t1); t19 := (lss, 3, t18, 0, 3); t20 := move(t19); t21 := move(t1) Gsome((2, false)); t22 := (gtr, 3, t21, 1024, 3) Gsome((2, false)); t23 := pick(t20, true, t22)
  refine W.thn (by simp only [go_sem, hp, hn1, hn2, hn3, ha1, ha2, ha3, ha4, hn8, Int.le_refl, List.length_replicate, hn0, hsb, List.length_set]; exact ⟨rfl, rfl⟩) ?_
  refine W.condF (by simp only [go_sem, hp, hn1, hn2, hn3, ha1, ha2, ha3, ha4, hn8, Int.le_refl, List.length_replicate, hn0, hsb, List.length_set]) ?_
  refine W.skip ?_
  refine W.seq ?_
  -- 6: t24 := move(t2); t25 := (lss, 3, t24, 0, 3); t26 := move(t25); t27 := move(t2) Gsome((2, false)); t28 := move(t1) Gsome((2, false)); t29 := (geq, 3, t27, t28, 3) Gsome((2, false)); t30 := pick(t26, true, t29)
  refine W.thn (by simp only [go_sem, hp, hn1, hn2, hn3, ha1, ha2, ha3, ha4, hn8, Int.le_refl, List.length_replicate, hn0, hsb, List.length_set]; exact ⟨rfl, rfl⟩) ?_
  refine W.condF (by simp only [go_sem, hp, hn1, hn2, hn3, ha1, ha2, ha3, ha4, hn8, Int.le_refl, List.length_replicate, hn0, hsb, List.length_set]) ?_
  refine W.skip ?_
  -- 8: t31 := move(t1); t32 := makeSlice(33, t31, t31); t10 := assign(t32)
  refine W.thn (by simp only [go_sem, hp, hn1, hn2, hn3, ha1, ha2, ha3, ha4, hn8, Int.le_refl, List.length_replicate, hn0, hsb, List.length_set]; exact ⟨rfl, rfl⟩) ?_
  -- 9: t33 := move(t10); t34 := move(t2); t35 := indexAddr(33, t33, t34); _ := store(3, t35, 1)
  refine W.thn (by simp only [go_sem, hp, hn1, hn2, hn3, ha1, ha2, ha3, ha4, hn8, Int.le_refl, List.length_replicate, hn0, hsb, List.length_set]; exact ⟨rfl, rfl⟩) ?_
  -- 10: t36 := move(t10); t6 := assign(t36); t7 := assign(0)
  refine W.thn (by simp only [go_sem, hp, hn1, hn2, hn3, ha1, ha2, ha3, ha4, hn8, Int.le_refl, List.length_replicate, hn0, hsb, List.length_set]; exact ⟨rfl, rfl⟩) ?_
  refine W.ret ⟨.inr rfl, _, res2 Tryz.results238, ?_⟩
  simp only [go_sem, hp, hn1, hn2, hn3, ha1, ha2, ha3, ha4, hn8, Int.le_refl, List.length_replicate, hn0, hsb, List.length_set]
  have e : (List.replicate n (AV.int .i64 0)).set a (AV.int .i64 1) = (unitL n a).map (AV.int .i64) := by simp [unitL, List.map_set]
  rw [e, List.take_of_length_le (by simp [unitL]), pv_map_int (k := 5)]
  exact Weak.tuple (.cons (Weak.vals _ _ _) (.cons (Weak.refl _) .nil))
theorem bitsAnd1 : ∀ k : Nat, k < 32 → bits2 .i64 (fun a b => a &&& b) (k : Int) 1 = (k % 2 : Nat) := by decide
theorem intPow_emod (a m : Int) : ∀ n : Nat, (a % m) ^ n % m = a ^ n % m
  | 0 => by rw [Int.pow_zero, Int.pow_zero]
  | n + 1 => by rw [Int.pow_succ, Int.pow_succ, Int.mul_emod, intPow_emod a m n, Int.emod_emod, ← Int.mul_emod]
theorem shr1 : ∀ k : Nat, k < 32 → (k : Int).fdiv (2 ^ min (Int.toNat 1) IntKind.i64.bits) = (k / 2 : Nat) := by decide
theorem powStep1 {x y m : Int} {k : Nat} (h : k % 2 = 1) : x * y % m * (y * y % m) ^ (k / 2) % m = x * y ^ k % m := by
  have e : y ^ k = y * (y * y) ^ (k / 2) := by
    conv => lhs; rw [show k = 2 * (k / 2) + 1 by omega]
    rw [Int.pow_succ, Int.pow_mul, Int.mul_comm, show y ^ 2 = y * y by rw [Int.pow_succ, Int.pow_succ, Int.pow_zero, Int.one_mul]]
  rw [e, ← Int.mul_assoc, Int.mul_emod, Int.emod_emod, Int.mul_emod (x * y), intPow_emod]
theorem powStep0 {x y m : Int} {k : Nat} (h : k % 2 = 0) : x * (y * y % m) ^ (k / 2) % m = x * y ^ k % m := by
  have e : y ^ k = (y * y) ^ (k / 2) := by
    conv => lhs; rw [show k = 2 * (k / 2) by omega]
    rw [Int.pow_mul, show y ^ 2 = y * y by rw [Int.pow_succ, Int.pow_succ, Int.pow_zero, Int.one_mul]]
  rw [e, Int.mul_emod, Int.mul_emod x ((y * y) ^ _), intPow_emod]
theorem pc224 (m a : Int) (n : Nat) (hm : 2 ≤ m ∧ m ≤ 65521) (ha : has m a = true) (hn : n < 32) : PureCall Tryz.prog 224 [.int .i64 m, .int .i64 a, .int .i64 n] (.int .i64 (a ^ n % m)) := by
  refine pureCall Tryz.func224 rfl Tryz.ntmps224 rfl ?_
  simp only [go_sem]
  -- 0: t6 := assign(0)
  refine W.thn (by simp only [go_sem]; exact ⟨rfl, rfl⟩) ?_
  -- 1: t7 := assign(1)
  refine W.thn (by simp only [go_sem]; exact ⟨rfl, rfl⟩) ?_
  refine W.seq ?_
  refine W.block ?_
  refine W.loopE [0, 1, 2, 7] (fun k l H => ∃ (x y : Int), has m x = true ∧ has m y = true ∧ k ≤ n ∧ x * y ^ k % m = a ^ n % m ∧ l = [(0, .int .i64 m), (1, .int .i64 y), (2, .int .i64 k), (7, .int .i64 x)] ∧ H = []) ⟨n, 1, a, by simp [has]; omega, ha, Nat.le_refl _, by simp, by simp only [go_sem], rfl⟩ fun k l H ⟨x, y, hx, hy, hk, he, e1, e2⟩ => ?_
  subst e1; subst e2
  have hb1 := bitsAnd1 k (by omega)
  have hs1 := shr1 k (by omega)
  have hs2 : (k : Int).fdiv (2 ^ min 1 64) = (k / 2 : Nat) := hs1
  refine W.seq ?_
  -- 2: t8 := move(t2); t9 := (gtr, 3, t8, 0, 3)
  refine W.thn (by simp only [go_sem, hs1, hs2]; exact ⟨rfl, rfl⟩) ?_
  refine W.ifB rfl (fun h1 => ?_) fun h1 => ?_ -- t9
  ·
    refine W.skip ?_
    refine W.seq ?_
    refine W.block ?_
    refine W.seq ?_
    -- 4: t12 := move(t2); t13 := (and, 3, t12, 1, 3); t14 := (eql, 3, t13, 1, 3)
    refine W.thn (by simp only [go_sem, hs1, hs2, h1]; exact ⟨rfl, rfl⟩) ?_
    refine W.ifB rfl (fun h2 => ?_) fun h2 => ?_ -- t14
    ·
      -- 5: t15 := move(t0); t16 := move(t7); t17 := move(t1); t18 := call(value(F129<residue.Field).Mul>)[t15, t16, t17]); t7 := assign(t18)
      refine W.lst (by
        simp only [go_sem, hs1, hs2, h1, h2]
        refine WP_pc (pcMul m x y hm hx hy) ent129 (by simp only [go_sem, aTarget]) rfl rfl ?_ -- call(value(F129<residue.Field).Mul>)[t15, t16, t17])
        simp only [go_sem, hs1, hs2, h1, h2]
        exact ⟨rfl, rfl⟩) ?_
      -- 6: t19 := move(t0); t20 := move(t1); t21 := move(t1); t22 := call(value(F129<residue.Field).Mul>)[t19, t20, t21]); t1 := assign(t22)
      refine W.lst (by
        simp only [go_sem, hs1, hs2, h1, h2]
        refine WP_pc (pcMul m y y hm hy hy) ent129 (by simp only [go_sem, aTarget]) rfl rfl ?_ -- call(value(F129<residue.Field).Mul>)[t19, t20, t21])
        simp only [go_sem, hs1, hs2, h1, h2]
        exact ⟨rfl, rfl⟩) ?_
      -- 3: t10 := move(t2); t11 := (shr, 3, t10, 1, 134); t2 := assign(t11)
      refine W.lst (by simp only [go_sem, hs1, hs2, h1, h2]; exact ⟨rfl, rfl⟩) ?_
      have h2' : k % 2 = 1 := by
        have h3 : ((k % 2 : Nat) : Int) = 1 := hb1.symm.trans (of_decide_eq_true h2)
        omega
      simp only [decide_eq_true_eq] at h1
      refine ⟨_, k / 2, rfl, by omega, x * y % m, y * y % m, has_mod (by omega), has_mod (by omega), by omega, ?_, by simp only [go_sem, hs1, hs2], rfl⟩
      rw [← he, powStep1 h2']
    ·
      refine W.skip ?_
      -- 6: t19 := move(t0); t20 := move(t1); t21 := move(t1); t22 := call(value(F129<residue.Field).Mul>)[t19, t20, t21]); t1 := assign(t22)
      refine W.lst (by
        simp only [go_sem, hs1, hs2, h1, h2]
        refine WP_pc (pcMul m y y hm hy hy) ent129 (by simp only [go_sem, aTarget]) rfl rfl ?_ -- call(value(F129<residue.Field).Mul>)[t19, t20, t21])
        simp only [go_sem, hs1, hs2, h1, h2]
        exact ⟨rfl, rfl⟩) ?_
      -- 3: t10 := move(t2); t11 := (shr, 3, t10, 1, 134); t2 := assign(t11)
      refine W.lst (by simp only [go_sem, hs1, hs2, h1, h2]; exact ⟨rfl, rfl⟩) ?_
      have h2' : k % 2 = 0 := by
        have h3 : ¬ ((k % 2 : Nat) : Int) = 1 := fun e => of_decide_eq_false h2 (hb1.trans e)
        omega
      simp only [decide_eq_true_eq] at h1
      refine ⟨_, k / 2, rfl, by omega, x, y * y % m, hx, has_mod (by omega), by omega, ?_, by simp only [go_sem, hs1, hs2], rfl⟩
      rw [← he, powStep0 h2']
  ·
    refine W.exit ?_ -- to 0
    -- 7: t23 := move(t7); t6 := assign(t23)
    refine W.thn (by simp only [go_sem, h1]; exact ⟨rfl, rfl⟩) ?_
    refine W.ret ⟨.inr rfl, _, res1 Tryz.results224, ?_⟩
    simp only [go_sem, h1]
    have hk0 : k = 0 := by simp only [decide_eq_false_iff_not] at h1; omega
    subst hk0
    refine Weak.of_eq ?_
    have hx' : x % m = x := by
      simp only [has, Bool.and_eq_true, decide_eq_true_eq] at hx
      exact Int.emod_eq_of_lt hx.1 hx.2
    rw [← he, Int.pow_zero, Int.mul_one, hx']
end Go.Ab
end
section
set_option linter.unusedVariables false
set_option linter.unusedSimpArgs false
namespace Go.Ab
open Go.RowKit Go.Proofs

attribute [go_sem] List.range_zero
def shareCells (m : Int) (cs : List Int) (pts : List Int) : List AV := pts.flatMap fun x => [.int .i64 x, .int .i64 (horner m cs x)]
def sharesA (m : Int) (cs : List Int) (pts : List Int) : AV := .vals 2 (shareCells m cs pts) false
@[go_sem] theorem sharesA_eq (m : Int) (cs : List Int) (pts : List Int) : sharesA m cs pts = .vals 2 (shareCells m cs pts) false := rfl
theorem shareCells_length (m : Int) (cs : List Int) : ∀ pts, (shareCells m cs pts).length = pts.length * 2
  | [] => rfl
  | x :: l => by
    have := shareCells_length m cs l
    unfold shareCells at this ⊢
    rw [List.flatMap_cons, List.length_append, this]
    simp; omega
theorem shareCells_next (m : Int) (cs : List Int) {pts : List Int} {j : Nat} {x : Int} (h : pts[j]? = some x) : shareCells m cs (pts.take (j + 1)) = shareCells m cs (pts.take j) ++ [.int .i64 x, .int .i64 (horner m cs x)] := by
  rw [List.take_add_one, h]
  simp [shareCells]
theorem shareCells_map (m : Int) (cs : List Int) (f : AV → AV) (hf : ∀ n, f (.int .i64 n) = .int .i64 n) (pts : List Int) : (shareCells m cs pts).map f = shareCells m cs pts := by
  unfold shareCells
  rw [List.map_flatMap]
  congr 1
  funext x
  simp [hf]
theorem pc251 (m : Int) (cs pts : List Int) (hm : 2 ≤ m ∧ m ≤ 65521) (hcs : ∀ c, c ∈ cs → has m c = true) (hp : ∀ x, x ∈ pts → has m x = true) (hl : cs.length ≤ 1000000) (hl2 : pts.length ≤ 1000000) : PureCall Tryz.prog 251 [.int .i64 m, ints cs, ints pts] (sharesA m cs pts) := by
  refine pureCall Tryz.func251 rfl Tryz.ntmps251 rfl ?_
  simp only [go_sem]
  -- 0: t6 := assign(slice(none, 0, 0))
  refine W.thn (by simp only [go_sem]; exact ⟨rfl, rfl⟩) ?_
  -- 1: t7 := assign(slice(none, 0, 0))
  refine W.thn (by simp only [go_sem]; exact ⟨rfl, rfl⟩) ?_
  refine W.seq ?_
  -- 2: t10 := move(t2); t11 := call(builtin(len)[t10]); t12 := move(0)
  refine W.thn (by simp only [go_sem]; exact ⟨rfl, rfl⟩) ?_
  refine W.block ?_
  refine W.le (Le.slice0 (d := 7) 2 (by simp only [go_sem])) ?_
  refine W.loopEL [0, 1, 7, 10, 11, 12] 1 (Nat.zero_le _) (fun k l H => ∃ j : Nat, j ≤ pts.length ∧ k = pts.length - j ∧ l = [(0, .int .i64 m), (1, .vals 1 (cs.map (AV.int .i64)) false), (7, .slice 2 0 0 j (j * 2) none), (10, .vals 1 (pts.map (AV.int .i64)) false), (11, .int .i64 pts.length), (12, .int .i64 j)] ∧ H = [.blk (shareCells m cs (pts.take j)) 0 false]) ⟨pts.length, 0, by omega, by omega, by simp only [go_sem]; rfl, by simp [shareCells]⟩ fun k l H ⟨j, hj, hk, e1, e2⟩ => ?_
  subst e1; subst e2
  -- 3: t13 := (lss, 3, t12, t11, 3)
  refine W.thn (by simp only [go_sem]; exact ⟨rfl, rfl⟩) ?_
  refine W.seq ?_
  refine W.ifB rfl (fun h1 => ?_) fun h1 => ?_ -- t13
  ·
    simp only [decide_eq_true_eq] at h1
    have hjl : j < pts.length := by omega
    have hx0 : pts[j]? = some pts[j] := List.getElem?_eq_getElem hjl
    have hxm : pts[j] ∈ pts := List.getElem_mem _
    generalize pts[j] = x at hx0 hxm
    have hsl : (shareCells m cs (pts.take j)).length = j * 2 := by rw [shareCells_length, List.length_take, Nat.min_eq_left hj]
    have hj16 : (j + 1) * 16 ≤ 140737488355328 := by omega
    have hnx := shareCells_next m cs hx0
    refine W.skip ?_
    refine W.seq ?_
    refine W.block ?_
    -- 4: t14 := indexAddr(33, t10, t12); t15 := load(3, t14); t9 := assign(t15)
    refine W.thn (by simp only [go_sem, hjl, at0 hx0, hsl, hj16, Nat.succ_ne_zero, wrapS (show j < 4611686018427387904 by omega)]; exact ⟨rfl, rfl⟩) ?_
    -- 5: t16 := move(t7); t17 := move(t9); t18 := move(t0); t19 := move(t1); t20 := move(t9); t21 := call(value(F225<residue.Field).Value>)[t18, t19, t20]); t22 := build(199, [(0, t17), (1, t21)]); t23 := buildSlice(195, 1, [(0, t22)]); t24 := call(builtin(append)[t16, t23]); t7 := assign(t24)
    refine W.lst (by
      simp only [go_sem, hjl, at0 hx0, hsl, hj16, Nat.succ_ne_zero, wrapS (show j < 4611686018427387904 by omega)]
      refine WP_pc (pc225 m x cs hm (hp x hxm) hcs (by omega)) ent225 (by simp only [go_sem, aTarget]) rfl rfl ?_ -- call(value(F225<residue.Field).Value>)[t18, t19, t20])
      simp only [go_sem, hjl, at0 hx0, hsl, hj16, Nat.succ_ne_zero, wrapS (show j < 4611686018427387904 by omega)]
      exact ⟨rfl, rfl⟩) ?_
    -- 6: t25 := (add, 3, t12, 1, 3); t12 := move(t25)
    refine W.lst (by simp only [go_sem, hjl, at0 hx0, hsl, hj16, Nat.succ_ne_zero, wrapS (show j < 4611686018427387904 by omega)]; exact ⟨rfl, rfl⟩) ?_
    refine ⟨_, pts.length - (j + 1), rfl, by omega, by simp, j + 1, by omega, by omega, ?_, ?_⟩
    · simp only [go_sem, show j * 2 + 2 = (j + 1) * 2 by omega]
    · rw [hnx]
      simp only [go_sem, List.map_append]
      rw [shareCells_map m cs _ (fun n => rfl)]
  ·
    refine W.exit ?_ -- to 0
    -- 7: t26 := move(t7); t6 := assign(t26)
    refine W.thn (by simp only [go_sem]; exact ⟨rfl, rfl⟩) ?_
    refine W.ret ⟨.inr rfl, _, res1 Tryz.results251, ?_⟩
    simp only [go_sem]
    simp only [decide_eq_false_iff_not] at h1
    have hjl : j = pts.length := by omega
    subst hjl
    rw [List.take_length]
    split
    · rename_i h0
      have : pts = [] := List.eq_nil_of_length_eq_zero h0
      subst this
      exact Weak.vals _ _ _
    · rw [List.take_of_length_le (by rw [shareCells_length]; omega), shareCells_map m cs _ (fun n => rfl)]
      exact Weak.vals _ _ _
end Go.Ab
end
section
set_option linter.unusedVariables false
set_option linter.unusedSimpArgs false
namespace Go.Ab
open Go.RowKit Go.Proofs

section
variable {P : Program} {rest : List Item} {n : Nat} {l : List (Nat × AV)} {H : Heap} {K : List AV → Heap → Prop} {dst : Option Tmp} {ty : TypeId} {pos : String} {after : Array Edge} {g : Option Tmp}
/-- A call, with which blocks are given away. -/
theorem WP_give (S : Nat → Bool) {f : Operand} {args : Array Operand} {tys : Array TypeId} {r : AV} {fi : FuncId} {xs ys : List AV} (hc : PureCall P fi ys r) (hf : enters P fi = true) (ht : aTarget (E n l) ⟨.value f, args, tys⟩ = some (fi, xs)) (hy : xs.map (pvS S H 8) = ys) (hp : pureBs ys = true) (hr : r.pureB = true) (h : WP P rest (putA (E n l) dst r) (goneS S H) K) :
    WP P (⟨⟨dst, .call ⟨.value f, args, tys⟩, ty, pos, after, none⟩, .s, g⟩ :: rest) (E n l) H K := ⟨r, goneS S H, .of_call rfl ht hf (hc.give S hy hp hr), by rw [goneS_length]; exact Nat.le_refl _, h⟩
variable {S : Nat → Bool} {k : Nat}
@[go_sem] theorem pvS_int (kd : IntKind) (x : Int) : pvS S H (k + 1) (.int kd x) = .int kd x := rfl
@[go_sem] theorem pvS_bool (x : Bool) : pvS S H (k + 1) (.bool x) = .bool x := rfl
@[go_sem] theorem pvS_str (x : ByteArray) : pvS S H (k + 1) (.str x) = .str x := rfl
@[go_sem] theorem pvS_vals (sz : Nat) (xs : List AV) (b : Bool) : pvS S H (k + 1) (.vals sz xs b) = .vals sz xs b := rfl
@[go_sem] theorem pvS_cptr (xs : List AV) : pvS S H (k + 1) (.cptr xs) = .cptr xs := rfl
@[go_sem] theorem pvS_nilS : pvS S H (k + 1) .nilSlice = .nilSlice := rfl
@[go_sem] theorem pvS_agg (xs : List AV) : pvS S H (k + 1) (.agg xs) = .agg (xs.map (pvS S H k)) := rfl
@[go_sem] theorem pvS_tuple (xs : List AV) : pvS S H (k + 1) (.tuple xs) = .tuple (xs.map (pvS S H k)) := rfl
@[go_sem] theorem pvS_func (f : FuncId) (a b : List AV) : pvS S H (k + 1) (.func f a b) = if (pureBs a && pureBs b) = true then .func f a b else .func f (a.map (pvS S H k)) (b.map (pvS S H k)) := (rfl)
@[go_sem] theorem pvS_ptr {b off v : Nat} : pvS S H (k + 1) (.ptr b off v) = if S b = true then (match H[b]? with
      | some (.blk cells mv false) => if mv ≤ v then .cptr (((cells.take v).drop off).map (pvS S H k)) else .unk
      | _ => .unk) else .unk := (rfl)
@[go_sem] theorem pvS_slice {sz b off len v : Nat} {cap : Option Nat} : pvS S H (k + 1) (.slice sz b off len v cap) = if len = 0 then .vals sz [] (decide (0 < v) || cap.isSome) else if S b = true then (match H[b]? with
      | some (.blk cells mv false) => if mv ≤ v ∧ off + len * sz ≤ v then .vals sz (((cells.drop off).take (len * sz)).map (pvS S H k)) true else .unk
      | _ => .unk) else .unk := (rfl)
@[go_sem] theorem pvS_map_int (kd : IntKind) (xs : List Int) : (xs.map (AV.int kd)).map (pvS S H (k + 1)) = xs.map (AV.int kd) := by rw [List.map_map]; rfl
@[go_sem] theorem goneS_eq : goneS S H = goneFrom S 0 H := rfl
@[go_sem] theorem goneFrom_nil {i : Nat} : goneFrom S i [] = [] := rfl
@[go_sem] theorem goneFrom_cons {i : Nat} {o : AObj} {H : Heap} : goneFrom S i (o :: H) = (if S i = true then .gone else o) :: goneFrom S (i + 1) H := rfl
end
def upTo (n : Nat) : List Int := (List.range n).map fun (i : Nat) => (i : Int) + 1
theorem upTo_next (j : Nat) : (upTo (j + 1)).map (AV.int .i64) = (upTo j).map (AV.int .i64) ++ [.int .i64 ((j : Int) + 1)] := by simp [upTo, List.range_succ]
theorem upTo_length (n : Nat) : (upTo n).length = n := by simp [upTo]
theorem upTo_mem {n : Nat} {x : Int} (h : x ∈ upTo n) : 1 ≤ x ∧ x ≤ n := by
  obtain ⟨i, hi, rfl⟩ := List.mem_map.1 h
  have := List.mem_range.1 hi
  omega
set_option maxRecDepth 100000 in
theorem pc248 (p sec : Int) (n : Nat) (xs : List Int) (hp : fieldOk p = true) (hs : has p sec = true) (hx : ∀ x, x ∈ xs → has p x = true) (hx1 : 1 ≤ xs.length) (hx9 : xs.length ≤ 9) (hn : 1 ≤ n ∧ n ≤ 512) (hnp : (n : Int) < p) : PureCall Tryz.prog 248 [.agg [.int .i64 p], .int .i64 sec, .int .i64 xs.length, .int .i64 n, tapeA xs 0] (.tuple [sharesA p (sec :: xs) (upTo n), tapeA xs xs.length, .int .i64 0]) := by
  refine pureCall Tryz.func248 rfl Tryz.ntmps248 rfl ?_
  obtain ⟨hp2, hp3⟩ := fieldOk_le hp
  have ht : thrOk xs.length = true := by simp [thrOk]; omega
  have hn1 : ((n : Int) < 1) = False := eq_false (by omega)
  have hn2 : (p ≤ (n : Int)) = False := eq_false (by omega)
  have hn3 : ((n : Int) > 512) = False := eq_false (by omega)
  have hn4 : ((512 : Int) < n) = False := eq_false (by omega)
  have hdr : PureCall Tryz.prog 223 [tapeA xs 0, .int .i64 p, .int .i64 xs.length] (.tuple [tapeA xs xs.length, ints xs, .int .i64 0]) := by
    have h := pc223 xs 0 p xs.length (by omega)
    have e : drawsErr xs 0 p xs.length = 0 := by
      have h1 : tapeOk xs 0 = true := by simp [tapeOk]; omega
      have h2 : limOk p = true := by simp [limOk]; omega
      simp only [drawsErr, h1, h2]
      have h3 : (0 : Int) ≤ (xs.length : Int) := by omega
      simp only [h3, and_self, if_true, Int.toNat_natCast, Int.toNat_zero, List.drop_zero]
      exact (draw_all (fun i x hi hxi => by
        have := hx x (List.mem_of_getElem? hxi)
        simpa [has] using this) (Nat.le_refl _)).2
    have e2 : drawsA xs 0 p xs.length = .tuple [tapeA xs xs.length, ints xs, .int .i64 0] := by
      unfold drawsA drawsTape drawsOf
      rw [e]; simp [tapeA]
    rw [e2] at h; exact h
  simp only [go_sem]
  -- 0: t5 := box(30, t0); t9 := box(43, t4); t10 := assign(slice(none, 0, 0)); t11 := alloc(43); t12 := assign(0)
  refine W.thn (by simp only [go_sem, hp, hs, ht, hn1, hn2, hn3, hn4]; exact ⟨rfl, rfl⟩) ?_
  -- 1: t20 := load(30, t5); t21 := call(value(F126<residue.Of>)[t20]); t19 := move(t21); t22 := extract(t19, 0); t23 := extract(t19, 1); t13 := assign(t22); t14 := assign(t23)
  refine W.thn (by
    simp only [go_sem, hp, hs, ht, hn1, hn2, hn3, hn4]
    refine WP_pc (pc126 p) ent126 (by simp only [go_sem, aTarget]) rfl rfl ?_ -- call(value(F126<residue.Of>)[t20])
    simp only [go_sem, hp, hs, ht, hn1, hn2, hn3, hn4]
    exact ⟨rfl, rfl⟩) ?_
  refine W.seq ?_
  refine W.block ?_
  -- 2: t25 := move(t14); t26 := unOp(not, 4, t25); t27 := move(t26); t28 := move(t13) Gsome((2, false)); t29 := move(t1) Gsome((2, false)); t30 := call(value(F131<residue.Field).Has>)[t28, t29]) Gsome((2, false)); t31 := unOp(not, 4, t30) Gsome((2, false)); t32 := pick(t27, true, t31); t24 := assign(t32)
  refine W.thn (by
    simp only [go_sem, hp, hs, ht, hn1, hn2, hn3, hn4]
    refine WP_pc (pcHas p sec) ent131 (by simp only [go_sem, aTarget]) rfl rfl ?_ -- call(value(F131<residue.Field).Has>)[t28, t29])
    simp only [go_sem, hp, hs, ht, hn1, hn2, hn3, hn4]
    exact ⟨rfl, rfl⟩) ?_
  refine W.condF (by simp only [go_sem, hp, hs, ht, hn1, hn2, hn3, hn4]) ?_
  -- 4: t35 := move(t2); t36 := call(value(F250<share.threshold>)[t35]); t37 := unOp(not, 4, t36); t38 := move(t37); t39 := move(t3) Gsome((3, false)); t40 := (lss, 3, t39, 1, 3) Gsome((3, false)); t41 := pick(t38, true, t40); t42 := move(t41); t43 := move(t3) Gsome((7, false)); t44 := fieldAddr(30, t5, 0) Gsome((7, false)); t45 := load(3, t44) Gsome((7, false)); t46 := (geq, 3, t43, t45, 3) Gsome((7, false)); t47 := pick(t42, true, t46); t48 := move(t47); t49 := move(t3) Gsome((13, false)); t50 := (gtr, 3, t49, 512, 3) Gsome((13, false)); t51 := pick(t48, true, t50); t34 := assign(t51)
  refine W.thn (by
    simp only [go_sem, hp, hs, ht, hn1, hn2, hn3, hn4]
    refine WP_pc (pc250 xs.length) ent250 (by simp only [go_sem, aTarget]) rfl rfl ?_ -- call(value(F250<share.threshold>)[t35])
    simp only [go_sem, hp, hs, ht, hn1, hn2, hn3, hn4]
    exact ⟨rfl, rfl⟩) ?_
  refine W.condF (by simp only [go_sem, hp, hs, ht, hn1, hn2, hn3, hn4]) ?_
  refine W.skip ?_
  -- 6: t54 := load(43, t9); t55 := fieldAddr(30, t5, 0); t56 := load(3, t55); t57 := move(t2); t58 := call(value(F223<tape.Draws>)[t54, t56, t57]); t53 := move(t58); t59 := extract(t53, 0); t60 := extract(t53, 1); t61 := extract(t53, 2); _ := store(43, t9, t59); t15 := assign(t60); t16 := assign(t61)
  refine W.thn (by
    simp only [go_sem, hp, hs, ht, hn1, hn2, hn3, hn4]
    refine WP_pc hdr ent223 (by simp only [go_sem, aTarget]) rfl rfl ?_ -- call(value(F223<tape.Draws>)[t54, t56, t57])
    simp only [go_sem, hp, hs, ht, hn1, hn2, hn3, hn4]
    exact ⟨rfl, rfl⟩) ?_
  refine W.seq ?_
  -- 7: t62 := move(t16); t63 := (neq, 37, t62, 0, 37)
  refine W.thn (by simp only [go_sem, hp, hs, ht, hn1, hn2, hn3, hn4]; exact ⟨rfl, rfl⟩) ?_
  refine W.condF (by simp only [go_sem, hp, hs, ht, hn1, hn2, hn3, hn4]) ?_
  refine W.skip ?_
  -- 9: t17 := assign(slice(none, 0, 0))
  refine W.thn (by simp only [go_sem, hp, hs, ht, hn1, hn2, hn3, hn4]; exact ⟨rfl, rfl⟩) ?_
  refine W.seq ?_
  -- 10: t66 := move(t3); t67 := move(0)
  refine W.thn (by simp only [go_sem, hp, hs, ht, hn1, hn2, hn3, hn4]; exact ⟨rfl, rfl⟩) ?_
  refine W.block ?_
  refine W.le (Le.slice0 (d := 17) 1 (by simp only [go_sem])) ?_
  refine W.loopEL [9, 11, 13, 1, 15, 17, 66, 67] 4 (Nat.zero_le _) (fun k l H => ∃ j : Nat, j ≤ n ∧ k = n - j ∧ l = [(9, .ptr 1 0 2), (11, .ptr 2 0 2), (13, .int .i64 p), (1, .int .i64 sec), (15, .vals 1 (xs.map (AV.int .i64)) false), (17, .slice 1 3 0 j j none), (66, .int .i64 n), (67, .int .i64 j)] ∧ H = [.blk [.int .i64 p] 1 false, .blk [.vals 1 (xs.map (AV.int .i64)) false, .int .i64 xs.length] 2 false, .blk [.nilSlice, .int .i64 0] 2 false, .blk ((upTo j).map (AV.int .i64)) 0 false]) ⟨n, 0, by omega, by omega, by simp only [go_sem, hp]; rfl, by simp [upTo]⟩ fun k l H ⟨j, hj, hk, e1, e2⟩ => ?_
  subst e1; subst e2
  -- 11: t68 := (lss, 3, t67, t66, 3)
  refine W.thn (by simp only [go_sem, hp, hs, ht, hn1, hn2, hn3, hn4]; exact ⟨rfl, rfl⟩) ?_
  refine W.seq ?_
  refine W.ifB rfl (fun h1 => ?_) fun h1 => ?_ -- t68
  ·
    simp only [decide_eq_true_eq] at h1
    have hj8 : (j + 1) * 8 ≤ 140737488355328 := by omega
    have hw := wrapS (show j < 4611686018427387904 by omega)
    refine W.skip ?_
    refine W.seq ?_
    refine W.block ?_
    -- 12: t69 := move(t67); t18 := assign(t69)
    refine W.thn (by simp only [go_sem, hp, hs, ht, hn1, hn2, hn3, hn4, hj8, hw, upTo_length, Nat.succ_ne_zero]; exact ⟨rfl, rfl⟩) ?_
    -- 13: t70 := move(t17); t71 := move(t18); t72 := (add, 3, t71, 1, 3); t73 := buildSlice(33, 1, [(0, t72)]); t74 := call(builtin(append)[t70, t73]); t17 := assign(t74)
    refine W.lst (by simp only [go_sem, hp, hs, ht, hn1, hn2, hn3, hn4, hj8, hw, upTo_length, Nat.succ_ne_zero]; exact ⟨rfl, rfl⟩) ?_
    -- 14: t75 := (add, 3, t67, 1, 3); t67 := move(t75)
    refine W.lst (by simp only [go_sem, hp, hs, ht, hn1, hn2, hn3, hn4, hj8, hw, upTo_length, Nat.succ_ne_zero]; exact ⟨rfl, rfl⟩) ?_
    refine ⟨_, n - (j + 1), rfl, by omega, by simp, j + 1, by omega, by omega, by simp only [go_sem], ?_⟩
    rw [upTo_next]
    simp only [go_sem, List.map_append]
    rfl
  ·
    refine W.exit ?_
    simp only [decide_eq_false_iff_not] at h1
    have hjn : j = n := by omega
    subst hjn
    have hsh := pc251 p (sec :: xs) (upTo j) ⟨by omega, by omega⟩ (fun c hc => by
      rcases List.mem_cons.1 hc with rfl | hc
      · exact hs
      · exact hx c hc) (fun x hx' => by have := upTo_mem hx'; simp [has]; omega) (by simp; omega) (by rw [upTo_length]; omega)
    have hsh' : PureCall Tryz.prog 251 [.int .i64 p, .vals 1 (AV.int .i64 sec :: xs.map (AV.int .i64)) true, .vals 1 ((upTo j).map (AV.int .i64)) true] (sharesA p (sec :: xs) (upTo j)) := hsh.weak (.cons (Weak.refl _) (.cons (Weak.vals _ _ _) (.cons (Weak.vals _ _ _) .nil))) (Weak.refl _)
    have hz1 : (AV.int .i64 sec :: xs.map (AV.int .i64)).length = xs.length + 1 := by simp
    have hz3 : (AV.int .i64 sec :: xs.map (AV.int .i64)).take (1 + xs.length) = AV.int .i64 sec :: xs.map (AV.int .i64) := List.take_of_length_le (by simp; omega)
    have hz4 : ((upTo j).map (AV.int .i64)).take j = (upTo j).map (AV.int .i64) := List.take_of_length_le (by rw [List.length_map, upTo_length]; omega)
    have hz5 : (1 + xs.length = 0) = False := eq_false (by omega)
    have hz6 : 1 + xs.length ≤ xs.length + 1 := by omega
    have hl8 : (1 + xs.length) * 8 ≤ 140737488355328 := by omega
    have hl1 : ¬ (1 + xs.length ≤ 1) := by omega
    have hl0 : ¬ xs.length = 0 := by omega
    have hj0 : ¬ j = 0 := by omega
    have hone : (xs.map (AV.int .i64)).all AV.one = true := by simp [AV.one]
    refine W.drawThnC [0, 1, 2, 3, 5, 7, 4, 6, 8, 9, 10] [.n, .n, .a, .n, .n, .n, .s, .s, .n, .s, .n] [[], [], [1], [], [], [], [1, 2, 3], [0, 1, 2, 3, 4, 6], [0, 1, 2, 3, 4, 6, 7], [0, 1, 2, 3, 4, 5, 6, 7, 8], [0, 1, 2, 3, 4, 5, 6, 7, 8, 9]] 5 [1, 2] rfl (by decide +kernel) rfl (by
      simp only [go_sem]
      refine ⟨rfl, rfl, rfl, rfl, .agg [.vals 1 (xs.map (AV.int .i64)) false, .int .i64 xs.length], rfl, by decide, ?_⟩
      simp only [go_sem, hl8, hl1, hl0, hone]
      refine ⟨rfl, ?_⟩
      refine WP_give (fun b => decide (3 ≤ b)) (xs := [.int .i64 p, .slice 1 5 0 (1 + xs.length) (xs.length + 1) none, .slice 1 3 0 j j none]) hsh' ent251 (by simp only [go_sem, aTarget]) (by simp only [go_sem, hj0, hz1, hz3, hz4, hz5, hz6]) rfl rfl ?_
      simp only [go_sem]
      refine ⟨rfl, ?_⟩
      try simp only [go_sem]
      exact ⟨rfl, rfl⟩) ?_
    refine W.ret ⟨.inr rfl, _, resTCT Tryz.results248 (by simp only [go_sem]; rfl), ?_⟩
    simp only [go_sem]
    exact Weak.refl _
end Go.Ab
end
section
set_option linter.unusedVariables false
set_option linter.unusedSimpArgs false
namespace Go.Ab
open Go.RowKit Go.Proofs

/-- n numbers of the field lie on the tape from k on. -/
def OKD (p : Int) (xs : List Int) (k n : Nat) : Prop := xs.length ≤ 16384 ∧ k + n ≤ xs.length ∧ ∀ i x, i < n → xs[k + i]? = some x → has p x = true
theorem OKD.sub {p : Int} {xs : List Int} {k n : Nat} (h : OKD p xs k n) (a m : Nat) (ham : a + m ≤ n) : OKD p xs (k + a) m := ⟨h.1, by have := h.2.1; omega, fun i x hi hx => h.2.2 (a + i) x (by omega) (by rw [← hx]; congr 1; omega)⟩
theorem OKD.mem {p : Int} {xs : List Int} {k n : Nat} (h : OKD p xs k n) : ∀ x, x ∈ (xs.drop k).take n → has p x = true := fun x hx => by
  obtain ⟨i, hi, rfl⟩ := List.mem_iff_getElem.1 hx
  simp only [List.length_take, List.length_drop] at hi
  refine h.2.2 i _ (by omega) ?_
  rw [List.getElem_take, List.getElem_drop]
  exact List.getElem?_eq_getElem (by omega)
theorem OKD.len {p : Int} {xs : List Int} {k n : Nat} (h : OKD p xs k n) : ((xs.drop k).take n).length = n := by
  have := h.2.1
  simp only [List.length_take, List.length_drop]; omega
theorem pcDraws {p : Int} {xs : List Int} {k n : Nat} (hp : fieldOk p = true) (h : OKD p xs k n) : PureCall Tryz.prog 223 [tapeA xs k, .int .i64 p, .int .i64 n] (.tuple [tapeA xs (k + n : Nat), ints ((xs.drop k).take n), .int .i64 0]) := by
  obtain ⟨h1, h2, h3⟩ := h
  obtain ⟨hp2, hp3⟩ := fieldOk_le hp
  have hh := pc223 xs k p n (by omega)
  have e : drawsErr xs k p n = 0 := by
    have e1 : tapeOk xs k = true := by simp [tapeOk]; omega
    have e2 : limOk p = true := by simp [limOk]; omega
    have e3 : (0 : Int) ≤ (n : Int) := by omega
    simp only [drawsErr, e1, e2, e3, and_self, if_true, Int.toNat_natCast]
    exact (draw_all (fun i x hi hxi => by
      have := h3 i x hi (by rw [List.getElem?_drop] at hxi; exact hxi)
      simpa [has] using this) (by simp; omega)).2
  have e2 : drawsA xs k p n = .tuple [tapeA xs (k + n : Nat), ints ((xs.drop k).take n), .int .i64 0] := by
    unfold drawsA drawsTape drawsOf
    rw [if_pos e, if_pos e, e]
    simp [tapeA]
  rw [e2] at hh; exact hh
/-- The draws, m at a time. -/
def chunks (xs : List Int) (k m j : Nat) : List (List Int) := (List.range j).map fun i => (xs.drop (k + i * m)).take m
theorem chunks_length (xs : List Int) (k m j : Nat) : (chunks xs k m j).length = j := by simp [chunks]
theorem chunks_next (xs : List Int) (k m j : Nat) : chunks xs k m (j + 1) = chunks xs k m j ++ [(xs.drop (k + j * m)).take m] := by simp [chunks, List.range_succ]
theorem chunks_ok {p : Int} {xs : List Int} {k m j : Nat} (h : OKD p xs k (m * j)) : ∀ l, l ∈ chunks xs k m j → l.length = m ∧ ∀ c, c ∈ l → has p c = true := fun l hl => by
  obtain ⟨i, hi, rfl⟩ := List.mem_map.1 hl
  have hij := List.mem_range.1 hi
  have hle : i * m + m ≤ m * j := by
    have : (i + 1) * m ≤ j * m := Nat.mul_le_mul_right m hij
    rw [Nat.add_mul, Nat.one_mul] at this
    rw [Nat.mul_comm m j]; exact this
  have := h.sub (i * m) m hle
  exact ⟨this.len, this.mem⟩
theorem W.drawLstC {P : Program} {n0 : N0} {Q : Ex → List AV → Heap → Prop} {n : Nat} {l : List (Nat × AV)} {H : Heap} {ts' : List AV} {H' : Heap} {id : Nat} {ops : Array Oper} (ord : List Nat) (kds : List Kd) (bs : List (List Nat)) (p : Nat) (qs : List Nat) (hm : P.follows .mixedOrders = true) (hs : schedOk ops ord kds bs ((posns (p + 1) qs).map fun f => (p, f)) = true)
    {it : Item} {l' : List Item} (hd : (itemsO (dsts ops.toList) ops.toList ord kds).drop p = it :: l') (h : WP P ((itemsO (dsts ops.toList) ops.toList ord kds).take p) (E n l) H (Chk P it qs l' fun te He => te = ts' ∧ He = H')) (hq : Q .normal ts' H') : W P n0 (.region id ops true) (E n l) H Q := by
  rw [itemsO_eq] at hd h
  refine (W.drawC ord kds bs p qs hm hs hd (Q := fun e te He => e = .normal ∧ te = ts' ∧ He = H') (by simpa using h)).weaken fun e te He ⟨e1, e2, e3⟩ => ?_
  subst e1; subst e2; subst e3; exact hq
theorem map_cv_ints {nb k : Nat} {H : Heap} (rs : List (List Int)) : (rs.map ints).map (cv nb H (k + 1)) = rs.map ints := by rw [List.map_map]; rfl
theorem map_pv_ints {nb k : Nat} {H : Heap} (rs : List (List Int)) : (rs.map ints).map (pv nb H (k + 1)) = rs.map ints := by rw [List.map_map]; rfl
theorem WeakL.append {a b c d : List AV} (h : WeakL a b) (k : WeakL c d) : WeakL (a ++ c) (b ++ d) := by
  induction h with
  | nil => exact k
  | cons x _ ih => exact .cons x ih
/-- What makes the sum of all queries a unit. -/
def parLast (p : Int) (n a : Nat) (rs : List (List Int)) : List Int := addT p (p - 1) (unitL n a) (sumRows p n rs)
section
variable (B0 B1 B2 B3 B4 B5 : AObj)
theorem sc238 (p : Int) (n a : Nat) (hp : fieldOk p = true) (hn : n ≤ 1024) (ha : a < n) : SoundCall Tryz.prog 238 [.agg [.int .i64 p], .int .i64 n, .int .i64 a] [B0, B1, B2, B3] (.tuple [.slice 1 5 0 n n (some n), .int .i64 0]) [B0, B1, B2, B3, .blk [.int .i64 p] 1 false, .blk ((unitL n a).map (AV.int .i64)) n false] := by
  refine soundCall Tryz.func238 rfl Tryz.ntmps238 rfl ?_
  have hn1 : ((n : Int) < 0) = False := eq_false (by omega)
  have hn2 : ((n : Int) > 1024) = False := eq_false (by omega)
  have hn3 : ((1024 : Int) < n) = False := eq_false (by omega)
  have ha1 : ((a : Int) < 0) = False := eq_false (by omega)
  have ha2 : ((n : Int) ≤ a) = False := eq_false (by omega)
  have ha3 : ((a : Int) < n) = True := eq_true (by omega)
  have hn8 : ((8 : Nat) : Int) * (n : Int) ≤ 281474976710656 := by omega
  have ha4 : a + 1 ≤ n := ha
  have hn0 : (n = 0) = False := eq_false (by omega)
  have hsb : (List.replicate n (AV.int .i64 0)).take a ++ [AV.int .i64 1] ++ (List.replicate n (AV.int .i64 0)).drop (a + 1) = (unitL n a).map (AV.int .i64) := by
    rw [set_back (by simpa using ha)]; simp [unitL, List.map_set]
  simp only [go_sem]
  -- 0: t3 := box(30, t0); t6 := assign(slice(none, 0, 0)); t7 := assign(0)
  refine W.thn (by simp only [go_sem, hp, hn1, hn2, hn3, ha1, ha2, ha3, ha4, hn8, Int.le_refl, List.length_replicate, hn0, hsb, List.length_set]; exact ⟨rfl, rfl⟩) ?_
  refine W.seq ?_
  -- 1: t12 := load(30, t3); t13 := call(value(F126<residue.Of>)[t12]); t11 := move(t13); t14 := extract(t11, 0); t15 := extract(t11, 1); t8 := assign(t14); t9 := assign(t15)
  refine W.thn (by
    simp only [go_sem, hp, hn1, hn2, hn3, ha1, ha2, ha3, ha4, hn8, Int.le_refl, List.length_replicate, hn0, hsb, List.length_set]
    refine WP_pc (pc126 p) ent126 (by simp only [go_sem, aTarget]) rfl rfl ?_ -- call(value(F126<residue.Of>)[t12])
    simp only [go_sem, hp, hn1, hn2, hn3, ha1, ha2, ha3, ha4, hn8, Int.le_refl, List.length_replicate, hn0, hsb, List.length_set]
    exact ⟨rfl, rfl⟩) ?_
  -- 2: t16 := move(t9); t17 := unOp(not, 4, t16)
  refine W.thn (by simp only [go_sem, hp, hn1, hn2, hn3, ha1, ha2, ha3, ha4, hn8, Int.le_refl, List.length_replicate, hn0, hsb, List.length_set]; exact ⟨rfl, rfl⟩) ?_
  refine W.condF (by simp only [go_sem, hp, hn1, hn2, hn3, ha1, ha2, ha3, ha4, hn8, Int.le_refl, List.length_replicate, hn0, hsb, List.length_set]) ?_
  refine W.skip ?_
  refine W.seq ?_
  -- 4: t18 := move(t1); t19 := (lss, 3, t18, 0, 3); t20 := move(t19); t21 := move(t1) Gsome((2, false)); t22 := (gtr, 3, t21, 1024, 3) Gsome((2, false)); t23 := pick(t20, true, t22)
  refine W.thn (by simp only [go_sem, hp, hn1, hn2, hn3, ha1, ha2, ha3, ha4, hn8, Int.le_refl, List.length_replicate, hn0, hsb, List.length_set]; exact ⟨rfl, rfl⟩) ?_
  refine W.condF (by simp only [go_sem, hp, hn1, hn2, hn3, ha1, ha2, ha3, ha4, hn8, Int.le_refl, List.length_replicate, hn0, hsb, List.length_set]) ?_
  refine W.skip ?_
  refine W.seq ?_
  -- 6: t24 := move(t2); t25 := (lss, 3, t24, 0, 3); t26 := move(t25); t27 := move(t2) Gsome((2, false)); t28 := move(t1) Gsome((2, false)); t29 := (geq, 3, t27, t28, 3) Gsome((2, false)); t30 := pick(t26, true, t29)
  refine W.thn (by simp only [go_sem, hp, hn1, hn2, hn3, ha1, ha2, ha3, ha4, hn8, Int.le_refl, List.length_replicate, hn0, hsb, List.length_set]; exact ⟨rfl, rfl⟩) ?_
  refine W.condF (by simp only [go_sem, hp, hn1, hn2, hn3, ha1, ha2, ha3, ha4, hn8, Int.le_refl, List.length_replicate, hn0, hsb, List.length_set]) ?_
  refine W.skip ?_
  -- 8: t31 := move(t1); t32 := makeSlice(33, t31, t31); t10 := assign(t32)
  refine W.thn (by simp only [go_sem, hp, hn1, hn2, hn3, ha1, ha2, ha3, ha4, hn8, Int.le_refl, List.length_replicate, hn0, hsb, List.length_set]; exact ⟨rfl, rfl⟩) ?_
  -- 9: t33 := move(t10); t34 := move(t2); t35 := indexAddr(33, t33, t34); _ := store(3, t35, 1)
  refine W.thn (by simp only [go_sem, hp, hn1, hn2, hn3, ha1, ha2, ha3, ha4, hn8, Int.le_refl, List.length_replicate, hn0, hsb, List.length_set]; exact ⟨rfl, rfl⟩) ?_
  -- 10: t36 := move(t10); t6 := assign(t36); t7 := assign(0)
  refine W.thn (by simp only [go_sem, hp, hn1, hn2, hn3, ha1, ha2, ha3, ha4, hn8, Int.le_refl, List.length_replicate, hn0, hsb, List.length_set]; exact ⟨rfl, rfl⟩) ?_
  refine W.ret ⟨.inr rfl, (res2 Tryz.results238).trans ?_, rfl⟩
  simp only [go_sem]
theorem sc240 (sz b o l v : Nat) (c : Option Nat) : SoundCall Tryz.prog 240 [.slice sz b o l v c] [B0, B1, B2, B3, B4, B5] (.func 241 [] [.ptr 6 0 1]) [B0, B1, B2, B3, B4, B5, .blk [.slice sz b o l v c] 1 false] := by
  refine soundCall Tryz.func240 rfl Tryz.ntmps240 rfl ?_
  simp only [go_sem]
  refine W.thn (by simp only [go_sem]; exact ⟨rfl, rfl⟩) ?_
  refine W.thn (by simp only [go_sem]; exact ⟨rfl, rfl⟩) ?_
  refine W.ret ⟨.inr rfl, (res1 Tryz.results240).trans ?_, rfl⟩
  simp only [go_sem]
end
set_option maxRecDepth 100000 in
theorem pc236 (p : Int) (n s a k : Nat) (xs : List Int) (hp : fieldOk p = true) (hn : n ≤ 1024) (hs : 2 ≤ s ∧ s ≤ 10) (ha : a < n) (hd : OKD p xs k (n * (s - 1))) : PureCall Tryz.prog 236 [.agg [.int .i64 p], .int .i64 n, .int .i64 s, .int .i64 a, tapeA xs k] (.tuple [rowsA (chunks xs k n (s - 1) ++ [parLast p n a (chunks xs k n (s - 1))]), tapeA xs (k + n * (s - 1) : Nat), .int .i64 0]) := by
  refine pureCall Tryz.func236 rfl Tryz.ntmps236 rfl ?_
  obtain ⟨hp2, hp3⟩ := fieldOk_le hp
  have hck : PureCall Tryz.prog 237 [.agg [.int .i64 p], .int .i64 n, .int .i64 s] (.int .i64 0) := by
    have h := pc237 p n s
    have e : parErr p n s = 0 := by rw [parErr, if_pos hp, if_pos (by omega)]
    rw [e] at h; exact h
  have ha1 : ((a : Int) < 0) = False := eq_false (by omega)
  have ha2 : ((n : Int) ≤ a) = False := eq_false (by omega)
  have hs1 : IntKind.i64.wrap ((s : Int) - 1) = ((s - 1 : Nat) : Int) := by rw [w64 (by omega)]; omega
  simp only [go_sem]
  -- 0: t5 := box(30, t0); t9 := box(43, t4); t10 := assign(slice(none, 0, 0)); t11 := alloc(43); t12 := assign(0)
  refine W.thn (by simp only [go_sem, hp, ha1, ha2, hs1]; exact ⟨rfl, rfl⟩) ?_
  refine W.seq ?_
  -- 1: t21 := load(30, t5); t22 := move(t1); t23 := move(t2); t24 := call(value(F237<parity.check>)[t21, t22, t23]); t13 := assign(t24)
  refine W.thn (by
    simp only [go_sem, hp, ha1, ha2, hs1]
    refine WP_pc hck ent237 (by simp only [go_sem, aTarget]) rfl rfl ?_ -- call(value(F237<parity.check>)[t21, t22, t23])
    simp only [go_sem, hp, ha1, ha2, hs1]
    exact ⟨rfl, rfl⟩) ?_
  -- 2: t25 := move(t13); t26 := (neq, 37, t25, 0, 37)
  refine W.thn (by simp only [go_sem, hp, ha1, ha2, hs1]; exact ⟨rfl, rfl⟩) ?_
  refine W.condF (by simp only [go_sem, hp, ha1, ha2, hs1]) ?_
  refine W.skip ?_
  refine W.seq ?_
  -- 4: t29 := move(t3); t30 := (lss, 3, t29, 0, 3); t31 := move(t30); t32 := move(t3) Gsome((2, false)); t33 := move(t1) Gsome((2, false)); t34 := (geq, 3, t32, t33, 3) Gsome((2, false)); t35 := pick(t31, true, t34)
  refine W.thn (by simp only [go_sem, hp, ha1, ha2, hs1]; exact ⟨rfl, rfl⟩) ?_
  refine W.condF (by simp only [go_sem, hp, ha1, ha2, hs1]) ?_
  refine W.skip ?_
  -- 6: t14 := assign(slice(none, 0, 0))
  refine W.thn (by simp only [go_sem, hp, ha1, ha2, hs1]; exact ⟨rfl, rfl⟩) ?_
  refine W.seq ?_
  -- 7: t37 := move(t2); t38 := (sub, 3, t37, 1, 3); t39 := move(0)
  refine W.thn (by simp only [go_sem, hp, ha1, ha2, hs1]; exact ⟨rfl, rfl⟩) ?_
  refine W.block ?_
  refine W.le (Le.slice0 (d := 14) 1 (by simp only [go_sem])) ?_
  refine W.loopEL [5, 9, 11, 1, 3, 14, 38, 39] 4 (Nat.zero_le _) (fun m l H => ∃ j : Nat, j ≤ s - 1 ∧ m = s - 1 - j ∧ l = [(5, .ptr 0 0 1), (9, .ptr 1 0 2), (11, .ptr 2 0 2), (1, .int .i64 n), (3, .int .i64 a), (14, .slice 1 3 0 j j none), (38, .int .i64 (s - 1 : Nat)), (39, .int .i64 j)] ∧ ∃ mv, mv ≤ 2 ∧ H = [.blk [.int .i64 p] 1 false, .blk [.vals 1 (xs.map (AV.int .i64)) false, .int .i64 (k + j * n : Nat)] mv false, .blk [.nilSlice, .int .i64 0] 2 false, .blk ((chunks xs k n j).map ints) 0 false]) ⟨s - 1, 0, by omega, by omega, by simp only [go_sem]; rfl, 2, by omega, by simp [chunks]⟩ fun m l H ⟨j, hj, hm, e1, mv, hmv, e2⟩ => ?_
  subst e1; subst e2
  -- 8: t40 := (lss, 3, t39, t38, 3)
  refine W.thn (by simp only [go_sem, hp, hs1, hmv]; exact ⟨rfl, rfl⟩) ?_
  refine W.seq ?_
  refine W.ifB rfl (fun h1 => ?_) fun h1 => ?_ -- t40
  ·
    simp only [decide_eq_true_eq] at h1
    have hjs : j < s - 1 := by omega
    have hmul : j * n + n ≤ n * (s - 1) := by
      have := Nat.mul_le_mul_right n (show j + 1 ≤ s - 1 by omega)
      rw [Nat.add_mul, Nat.one_mul] at this
      rw [Nat.mul_comm n]; exact this
    have hdr := pcDraws hp (hd.sub (j * n) n hmul)
    have hj8 : (j + 1) * 24 ≤ 140737488355328 := by omega
    have hw := wrapS (show j < 4611686018427387904 by omega)
    have hcl := chunks_length xs k n j
    refine W.skip ?_
    refine W.seq ?_
    refine W.block ?_
    -- 9: t42 := load(43, t9); t43 := fieldAddr(30, t5, 0); t44 := load(3, t43); t45 := move(t1); t46 := call(value(F223<tape.Draws>)[t42, t44, t45]); t41 := move(t46); t47 := extract(t41, 0); t48 := extract(t41, 1); t49 := extract(t41, 2); t15 := alloc(43); _ := store(43, t15, t47); t16 := assign(t48); t17 := assign(t49)
    refine W.thn (by
      simp only [go_sem, hp, hs1, hmv, hw, hj8, hcl, List.length_map, Nat.succ_ne_zero]
      refine WP_pc hdr ent223 (by simp only [go_sem, aTarget]) rfl rfl ?_ -- call(value(F223<tape.Draws>)[t42, t44, t45])
      simp only [go_sem, hp, hs1, hmv, hw, hj8, hcl, List.length_map, Nat.succ_ne_zero]
      exact ⟨rfl, rfl⟩) ?_
    refine W.seq ?_
    -- 10: t50 := move(t17); t51 := (neq, 37, t50, 0, 37)
    refine W.thn (by simp only [go_sem, hp, hs1, hmv, hw, hj8, hcl, List.length_map, Nat.succ_ne_zero]; exact ⟨rfl, rfl⟩) ?_
    refine W.condF (by simp only [go_sem, hp, hs1, hmv, hw, hj8, hcl, List.length_map, Nat.succ_ne_zero]) ?_
    refine W.skip ?_
    -- 12: t54 := load(43, t15); t55 := move(t14); t56 := move(t16); t57 := buildSlice(59, 1, [(0, t56)]); t58 := call(builtin(append)[t55, t57]); _ := store(43, t9, t54); t14 := assign(t58)
    refine W.drawLstC [0, 1, 2, 3, 4, 5, 6] [.n, .n, .n, .a, .s, .s, .n] [[], [], [], [2], [1, 2, 3], [0, 1, 2, 3, 4], [0, 1, 2, 3, 4, 5]] 0 [4] rfl (by decide +kernel) rfl (by
      simp only [go_sem]
      refine ⟨rfl, rfl, rfl, rfl, .agg [.vals 1 (xs.map (AV.int .i64)) false, .int .i64 (k + j * n + n : Nat)], rfl, by decide, ?_⟩
      simp only [go_sem, hj8, hcl, List.length_map, Nat.succ_ne_zero]
      exact ⟨rfl, rfl, rfl⟩) ?_
    -- 13: t59 := (add, 3, t39, 1, 3); t39 := move(t59)
    refine W.lst (by simp only [go_sem, hp, hs1, hmv, hw, hj8, hcl, List.length_map, Nat.succ_ne_zero]; exact ⟨rfl, rfl⟩) ?_
    refine ⟨_, s - 1 - (j + 1), rfl, by omega, by simp, j + 1, by omega, by omega, by simp only [go_sem], 2, by omega, ?_⟩
    rw [chunks_next, show k + (j + 1) * n = k + j * n + n by rw [Nat.add_mul, Nat.one_mul, Nat.add_assoc]]
    simp only [go_sem, List.map_append, map_cv_ints]
  ·
    refine W.exit ?_ -- to 0
    -- 14: t60 := fieldAddr(30, t5, 0); t61 := load(3, t60); t18 := assign(t61)
    refine W.thn (by simp only [go_sem, hp, ha1, ha2, hs1]; exact ⟨rfl, rfl⟩) ?_
    -- 15: t63 := load(30, t5); t64 := move(t1); t65 := move(t3); t66 := call(value(F238<vector.Unit>)[t63, t64, t65]); t62 := move(t66); t67 := extract(t62, 0); t68 := extract(t62, 1); t19 := assign(t67); t20 := assign(t68)
    refine W.thn (by
      simp only [go_sem, hp, ha1, ha2, hs1]
      refine WP_call_s (by simp only [go_sem, aTarget]) ent238 (sc238 _ _ _ _ p n a hp hn ha) (by simp) ?_ -- call(value(F238<vector.Unit>)[t63, t64, t65])
      simp only [go_sem, hp, ha1, ha2, hs1]
      exact ⟨rfl, rfl⟩) ?_
    have hjs : j = s - 1 := by simp only [decide_eq_false_iff_not] at h1; omega
    subst hjs
    have hrs := chunks_ok hd
    have hcl := chunks_length xs k n (s - 1)
    have hkm : k + (s - 1) * n = k + n * (s - 1) := by rw [Nat.mul_comm]
    rw [hkm]
    generalize hR : chunks xs k n (s - 1) = R at hrs hcl
    have hwe : IntKind.i64.wrap (p - 1) = p - 1 := w64 (by omega)
    have hj0 : (s - 1 = 0) = False := eq_false (by omega)
    have htk : (R.map ints).take (s - 1) = R.map ints := List.take_of_length_le (by rw [List.length_map]; omega)
    have hrc := (rc239 p n R ⟨hp2, hp3⟩ (by omega) (by omega) (fun l hl => (hrs l hl).1) (fun l hl => (hrs l hl).2)).args (xs := [.int .i64 p, .int .i64 n, .func 241 [] [.cptr [.vals 1 (R.map ints) true]]]) (.cons (Weak.refl _) (.cons (Weak.refl _) (.cons (Weak.func .nil (.cons (Weak.cptr (.cons (Weak.vals _ _ _) .nil)) .nil)) .nil)))
    obtain ⟨hsl, hsh⟩ := sumRows_ok (m := p) hp2 (n := n) (rs := R) fun l hl => (hrs l hl).1
    have hul : (unitL n a).length = n := by simp [unitL]
    have huh : ∀ c, c ∈ unitL n a → has p c = true := fun c hc => by
      unfold unitL at hc
      rcases List.mem_or_eq_of_mem_set hc with h' | rfl
      · rw [(List.mem_replicate.1 h').2]; simp [has]; omega
      · simp [has]; omega
    have hadd : ∀ B1 B2 B3 B4 B6 : AObj, SoundCall Tryz.prog 175 [.int .i64 p, .slice 1 5 0 n n (some n), .int .i64 (p - 1), ints (sumRows p n R)] [.blk [.int .i64 p] 1 false, B1, B2, B3, B4, .blk ((unitL n a).map (AV.int .i64)) n false, B6] (.tuple []) [.blk [.int .i64 p] 1 false, B1, B2, B3, B4, .blk ((parLast p n a R).map (AV.int .i64)) n false, B6] := fun B1 B2 B3 B4 B6 => by
      have h := sc175 p (p - 1) (unitL n a) (sumRows p n R) ⟨hp2, hp3⟩ (by simp [has]; omega) huh hsh (by rw [hul, hsl]) (by omega) [.blk [.int .i64 p] 1 false, B1, B2, B3, B4, .blk ((unitL n a).map (AV.int .i64)) n false, B6] 5 n (some n) rfl (by omega)
      rw [hul, if_neg (by omega)] at h
      exact h
    have hpl : (parLast p n a R).length = n := by rw [parLast, addT_length (by rw [hul, hsl]), hul]
    refine W.drawThnC [0, 1, 2, 3, 4, 5, 6, 7, 8, 9, 10] [.n, .n, .n, .n, .n, .n, .n, .n, .s, .s, .s] [[], [], [], [2], [2, 3], [], [], [], [7], [5, 6, 7, 8], [0, 1, 2, 3, 4, 5, 6, 7, 8, 9]] 3 [5, 1] rfl (by decide +kernel) rfl (by
      simp only [go_sem]
      refine ⟨rfl, rfl, rfl, rfl, .int .i64 p, rfl, by decide, ?_⟩
      simp only [go_sem, hwe]
      refine WP_call_s (by simp only [go_sem, aTarget]; rfl) ent240 (sc240 _ _ _ _ _ _ _ _ _ _ _ _) (by simp) ?_
      simp only [go_sem]
      refine ⟨rfl, ?_⟩
      refine WP_call_s (by simp only [go_sem, aTarget]; rfl) ent239 (hrc.borrow (k := 6) (by simp only [go_sem, hj0, htk, map_pv_ints])) (Nat.le_refl _) ?_
      simp only [go_sem]
      refine ⟨rfl, ?_⟩
      refine WP_call_s (by simp only [go_sem, aTarget]) ent175 (hadd _ _ _ _ _) (by simp) ?_
      simp only [go_sem]
      exact ⟨rfl, rfl⟩) ?_
    have hj8 : (s - 1 + 1) * 24 ≤ 140737488355328 := by omega
    have hn0 : (n = 0) = False := eq_false (by omega)
    have htp : ((parLast p n a R).map (AV.int .i64)).take n = (parLast p n a R).map (AV.int .i64) := List.take_of_length_le (by rw [List.length_map]; omega)
    generalize parLast p n a R = L at hpl htp
    refine W.drawThnC [0, 1, 2, 4, 3, 5, 6, 7] [.n, .n, .a, .n, .s, .n, .s, .n] [[], [], [1], [], [0, 1, 2], [0, 1, 2, 4], [0, 1, 2, 3, 4, 5], [0, 1, 2, 3, 4, 5, 6]] 3 [2] rfl (by decide +kernel) rfl (by
      simp only [go_sem]
      refine ⟨rfl, rfl, rfl, rfl, .agg [.vals 1 (xs.map (AV.int .i64)) false, .int .i64 (k + n * (s - 1) : Nat)], (by simp only [aOp, go_sem, hmv]), by decide, ?_⟩
      simp only [go_sem, hj8, hcl, List.length_map, Nat.succ_ne_zero]
      refine ⟨(by simp only [aOp, go_sem, hmv]), ?_⟩
      exact ⟨rfl, rfl⟩) ?_
    have htk2 : (R.map ints ++ [AV.slice 1 5 0 n n (some n)]).take (s - 1 + 1) = R.map ints ++ [AV.slice 1 5 0 n n (some n)] := List.take_of_length_le (by simp; omega)
    refine W.ret ⟨.inr rfl, _, resTCT Tryz.results236 (by simp only [go_sem]; rfl), ?_⟩
    simp only [go_sem, Nat.succ_ne_zero, htk2, List.map_append, map_pv_ints, hn0, htp, Nat.le_refl]
    refine Weak.tuple (.cons (Weak.valsL (WeakL.append (WeakL.refl _) (.cons ?_ .nil))) (.cons (Weak.refl _) (.cons (Weak.refl _) .nil)))
    rw [pv_map_int (k := 4)]
    exact Weak.vals _ _ _
end Go.Ab
end
