/- The operations on the abstract memory: copy, lengths, least and greatest; and all operations that call nothing under one name. -/
import Derived.Test.YtaljgjnnpallpaaGreatA6
set_option linter.unusedVariables false
set_option linter.unusedSimpArgs false
namespace Go.Ab
open Go.RowKit

section
variable {base : Nat} {w0 : World} {P : Program} {φ : Phi} {H : Heap} {w : World}

/-! #### copy -/
theorem Rel.firstCells_le (h : Rel base w0 φ H w) {sz : Nat} {x : AV} {x' : Value} {cells : List AV} {n m : Nat} (hx : VR φ x x') (hc : aCellsOf sz x H = some cells) (hm : aLen x = some m) (hn : n ≤ m) :
    ∃ cs : List Value, (Builtin.firstCells sz n x').run P w = .ok cs.toArray w ∧ VRs φ (cells.take (n * sz)) cs ∧ (cells.take (n * sz)).length = n * sz := by
  cases x <;> simp [aCellsOf] at hc
  · rename_i s
    obtain ⟨h1, rfl⟩ := hc
    simp [aLen] at hm; subst hm; subst h1
    cases hx
    have hs : (s.extract 0 n).data.toList = s.data.toList.take n := by
      simp [ByteArray.extract, ByteArray.copySlice]
    refine ⟨(s.data.toList.take n).map fun b => .int .u8 b.toNat, ?_, ?_, by simp; omega⟩
    · simp only [Builtin.firstCells, Sem.run_pure]
      congr 1
      rw [← hs, ← Array.toList_map]
    · exact VRs.of_get _ _ (by simp) fun i x hx => by
        rw [Nat.mul_one, ← List.map_take, List.getElem?_map] at hx
        obtain ⟨b, hb, rfl⟩ := Option.map_eq_some_iff.1 hx
        exact ⟨_, by rw [List.getElem?_map, hb]; rfl, .int _ _⟩
  · subst hc
    simp [aLen] at hm; subst hm
    obtain rfl : n = 0 := by omega
    cases hx
    exact ⟨[], by simp [Builtin.firstCells], by simpa using VRs.nil, by simp⟩
  · rename_i sz' b off len ver cap
    simp [aLen] at hm; subst hm
    split at hc
    · rename_i cl mv ro hb
      simp only [Option.ite_none_right_eq_some, Option.some.injEq] at hc
      obtain ⟨⟨rfl, h1, h2⟩, rfl⟩ := hc
      cases hx with
      | slice hφ hl hcap hS ha =>
        rename_i B o S C A
        have k := h.blk b cl mv ro hb _ _ _ _ hφ
        have hnm : n * sz' ≤ len * sz' := Nat.mul_le_mul_right _ hn
        rcases ha with rfl | ⟨h0, a, rfl⟩
        · obtain ⟨ys, e1, e2⟩ := h.loadCells (P := P) hb hφ h1 (off := off) (n := n * sz') (by omega)
          refine ⟨ys, by simp [Builtin.firstCells, e1], ?_, by have := k.ver; simp; omega⟩
          rw [List.take_take, Nat.min_eq_left hnm]
          exact e2
        · have hl0 : n = 0 := by omega
          subst hl0
          refine ⟨[], ?_, by simpa using VRs.nil, by simp⟩
          simp [Builtin.firstCells, Go.loadCells, loadCellsFrom]
      | slice0 hz =>
        obtain rfl : n = 0 := by omega
        exact ⟨[], by simp [Builtin.firstCells], by simpa using VRs.nil, by simp⟩
    · cases hc
  · rename_i sz' xs nn
    obtain ⟨⟨rfl, h0⟩, rfl⟩ := hc
    simp [aLen] at hm
    obtain ⟨_, rfl⟩ := hm
    cases hx with
    | vals hk hxs hl hC ha =>
      rename_i ys B o len C A
      have hlen : xs.length / sz' = len := by rw [hl]; exact Nat.mul_div_cancel _ h0
      rw [hlen] at hn
      have hnm : n * sz' ≤ len * sz' := Nat.mul_le_mul_right _ hn
      rcases ha with rfl | ⟨hl0, ha⟩
      · obtain ⟨zs, e1, e2⟩ := h.knowCells (P := P) hk hxs (off := 0) (n := n * sz') (by omega)
        rw [List.drop_zero] at e2
        exact ⟨zs, by simpa [Builtin.firstCells] using e1, e2, by simp; omega⟩
      · subst hl0
        obtain rfl : n = 0 := by omega
        refine ⟨[], ?_, by simpa using VRs.nil, by simp⟩
        cases A <;> simp [Builtin.firstCells, Go.loadCells, loadCellsFrom]

def aCopy (P : Program) (dT : TypeId) (d x : AV) (H : Heap) : Option (AV × Heap) :=
  match P.underlying dT with
  | some (.slice e) =>
    match P.info? e with
    | some i =>
      match aLen x, aCellsOf i.size x H, d with
      | some m, some xs, .nilSlice => some (.int .i64 0, H)
      | some m, some xs, .slice sz b off len ver _ =>
        if min m len = 0 then some (.int .i64 0, H)
        else match H[b]? with
          | some (.blk cells _ false) =>
            if sz = i.size ∧ 0 < i.size ∧ ver = cells.length ∧ off + min m len * i.size ≤ cells.length ∧ (xs.take (min m len * i.size)).all AV.one = true then
              some (.int .i64 ((min m len : Nat) : Int), H.set b (.blk (splice cells off (xs.take (min m len * i.size))) cells.length false))
            else none
          | _ => none
      | _, _, _ => none
    | none => none
  | _ => none
theorem run_copy {dT sT e : TypeId} {i : TypeInfo} {A : Option Addr} {len C m : Nat} {x' : Value} {cs : List Value} (ty : TypeId) (hd : P.underlying dT = some (.slice e)) (hi : P.info? e = some i) (hm : (Builtin.lenOf x').run P w = .ok m w) (hf : (Builtin.firstCells i.size (min m len) x').run P w = .ok cs.toArray w) :
    (Builtin.copy_ #[dT, sT] ty #[.slice A len C, x']).run P w = (do (match A with | some a => Go.storeCells a cs | none => pure ()); pure (goInt ((min m len : Nat) : Int)) : Sem Value).run P w := by
  simp only [Builtin.copy_, List.getElem?_toArray, List.getElem?_cons_zero, List.getElem?_cons_succ, Sem.run_bind, run_under hd, Result.andThen_ok, hm, run_sizeOf hi]
  rw [show Nat.min m len = min m len from rfl, hf]
  cases A <;> first | rfl | (simp only [Sem.run_bind, Sem.run_pure, Result.andThen_ok])
theorem aCopy_ok (h : Rel base w0 φ H w) {dT sT : TypeId} {d x r : AV} {d' x' : Value} {H' : Heap} (ty : TypeId) (hd : VR φ d d') (hx : VR φ x x') (hc : aCopy P dT d x H = some (r, H')) : Does base w0 P φ H w (Builtin.copy_ #[dT, sT] ty #[d', x']) r H' := by
  unfold aCopy at hc
  split at hc
  · rename_i e hdt
    split at hc
    · rename_i i hi
      split at hc
      · rename_i m xs hm hxs
        injection hc with hc; injection hc with e1 e2; subst e1; subst e2
        cases hd
        obtain ⟨cs, f1, f2, f3⟩ := h.firstCells_le (P := P) (n := min m 0) hx hxs hm (Nat.min_le_left _ _)
        refine does_pure h ?_ (.int _ _)
        rw [run_copy (P := P) (w := w) ty hdt hi (run_lenOf hx hm) f1]
        simp [goInt]
      · rename_i m xs sz b off len ver cap hm hxs
        obtain ⟨cs, f1, f2, f3⟩ := h.firstCells_le (P := P) (n := min m len) hx hxs hm (Nat.min_le_left _ _)
        split at hc
        · rename_i h0
          injection hc with hc; injection hc with e1 e2; subst e1; subst e2
          cases hd with
          | slice hφ hl hcap hS ha =>
            rename_i B o S C A
            refine does_pure h ?_ (.int _ _)
            rw [run_copy (P := P) (w := w) ty hdt hi (run_lenOf hx hm) f1]
            have hcs : cs = [] := List.eq_nil_of_length_eq_zero (by rw [← f2.length, f3, h0]; simp)
            subst hcs
            rw [h0]
            cases A <;> simp [goInt, Go.storeCells]
          | slice0 hz =>
            refine does_pure h ?_ (.int _ _)
            rw [run_copy (P := P) (w := w) ty hdt hi (run_lenOf hx hm) f1]
            simp [goInt]
        · rename_i h0
          split at hc
          · rename_i cells mv hb
            split at hc
            · rename_i hcc
              obtain ⟨hsz0, hsz, hver, hle, hone⟩ := hcc
              injection hc with hc; injection hc with e1 e2; subst e1; subst e2
              cases hd with
              | slice hφ hl hcap hS ha =>
                subst hsz0; subst hver
                rename_i B o S C A
                have k := h.blk b cells mv false hb _ _ _ _ hφ
                obtain ⟨_, rfl, _⟩ := k.own rfl
                rcases ha with rfl | ⟨hC, _⟩
                · have hpos : 0 < (xs.take (min m len * i.size)).length := by rw [f3]; exact Nat.mul_pos (by omega) hsz
                  obtain ⟨w', g1, g2⟩ := Rel.storeCells (P := P) _ cs off 0 cells mv H w h hb rfl hφ f2 hone (by omega) hpos
                  refine ⟨.int .i64 ((min m len : Nat) : Int), w', φ, ?_, Ext.refl _ _ _, by simp, by simpa using g2, .int _ _⟩
                  rw [run_copy (P := P) (w := w) ty hdt hi (run_lenOf hx hm) f1]
                  simp only [Sem.run_bind, Nat.zero_add, g1, Result.andThen_ok, Sem.run_pure, goInt]
                · omega
              | slice0 hz => simp at h0
            · cases hc
          · cases hc
      · cases hc
    · cases hc
  · cases hc

/-! #### lengths -/
def aLenOf (P : Program) (t : TypeId) (x : AV) : Option AV :=
  match P.underlying t, x with
  | some .string, .str s => some (.int .i64 s.size)
  | some (.slice _), .nilSlice => some (.int .i64 0)
  | some (.slice _), .slice _ _ _ len _ _ => some (.int .i64 len)
  | some (.slice _), .vals sz xs _ => if 0 < sz then some (.int .i64 ((xs.length / sz : Nat) : Int)) else none
  | some (.array n _), .agg _ => some (.int .i64 n)
  | _, _ => none
theorem aLenOf_ok {t : TypeId} {x r : AV} {x' : Value} (ty : TypeId) (hx : VR φ x x') (h : aLenOf P t x = some r) : ∃ v, (Builtin.len_ #[t] ty #[x']).run P w = .ok v w ∧ VR φ r v := by
  unfold aLenOf at h
  split at h
  · rename_i s hd
    injection h with h; subst h; cases hx
    exact ⟨_, by simp only [Builtin.len_, List.getElem?_toArray, List.getElem?_cons_zero, Sem.run_bind, run_under hd, Result.andThen_ok]; rfl, .int _ _⟩
  · rename_i e hd
    injection h with h; subst h; cases hx
    exact ⟨.int .i64 0, by simp only [Builtin.len_, List.getElem?_toArray, List.getElem?_cons_zero, Sem.run_bind, run_under hd, Result.andThen_ok]; rfl, .int _ _⟩
  · rename_i e hd
    injection h with h; subst h
    cases hx with
    | slice hφ hl hcap hS ha => exact ⟨_, by simp only [Builtin.len_, List.getElem?_toArray, List.getElem?_cons_zero, Sem.run_bind, run_under hd, Result.andThen_ok]; rfl, .int _ _⟩
    | slice0 hz => exact ⟨_, by simp only [Builtin.len_, List.getElem?_toArray, List.getElem?_cons_zero, Sem.run_bind, run_under hd, Result.andThen_ok]; rfl, .int _ _⟩
  · rename_i e sz xs nn hd
    split at h
    · rename_i h0
      injection h with h; subst h
      cases hx with
      | vals hk hxs hl hC ha =>
        rw [hl, Nat.mul_div_cancel _ h0]
        exact ⟨_, by simp only [Builtin.len_, List.getElem?_toArray, List.getElem?_cons_zero, Sem.run_bind, run_under hd, Result.andThen_ok]; rfl, .int _ _⟩
    · cases h
  · rename_i n e cs hd
    injection h with h; subst h; cases hx
    exact ⟨_, by simp only [Builtin.len_, List.getElem?_toArray, List.getElem?_cons_zero, Sem.run_bind, run_under hd, Result.andThen_ok]; rfl, .int _ _⟩
  · cases h

/-! #### least and greatest of two numbers -/
def aMax2 (x y : AV) : Option AV := match x, y with | .int k a, .int _ b => some (.int k (if b > a then b else a)) | _, _ => none
def aMin2 (x y : AV) : Option AV := match x, y with | .int k a, .int _ b => some (.int k (if b < a then b else a)) | _, _ => none
theorem aMax2_ok {ts : Array TypeId} {ty : TypeId} {x y r : AV} {x' y' : Value} (hx : VR φ x x') (hy : VR φ y y') (h : aMax2 x y = some r) : ∃ v, (Builtin.max_ ts ty #[x', y']).run P w = .ok v w ∧ VR φ r v := by
  unfold aMax2 at h
  split at h
  · injection h with h; subst h; cases hx; cases hy
    exact ⟨_, by simp [Builtin.max_, Builtin.max2], .int _ _⟩
  · cases h
theorem aMin2_ok {ts : Array TypeId} {ty : TypeId} {x y r : AV} {x' y' : Value} (hx : VR φ x x') (hy : VR φ y y') (h : aMin2 x y = some r) : ∃ v, (Builtin.min_ ts ty #[x', y']).run P w = .ok v w ∧ VR φ r v := by
  unfold aMin2 at h
  split at h
  · injection h with h; subst h; cases hx; cases hy
    exact ⟨_, by simp [Builtin.min_, Builtin.min2], .int _ _⟩
  · cases h
end
end Go.Ab
