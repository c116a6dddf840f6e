/- The operations on the abstract memory, one by one: append, copy, lengths. -/
import Derived.Test.YtaljgjnnpallpaaGreatA4
set_option linter.unusedVariables false
set_option linter.unusedSimpArgs false
namespace Go.Ab
open Go.RowKit

section
variable {base : Nat} {w0 : World} {P : Program} {φ : Phi} {H : Heap} {w : World}

theorem growBy_le (m : Nat) : ∀ (r c : Nat), 256 ≤ c → c ≤ 2 * m → Builtin.growBy m r c ≤ 2 * m
  | 0, c, _, h => h
  | r + 1, c, h1, h => by
    unfold Builtin.growBy
    split
    · exact h
    · exact growBy_le m r _ (by omega) (by omega)
theorem nextslicecap_le {m c : Nat} (h : c < m) : Builtin.nextslicecap m c ≤ 2 * m := by
  unfold Builtin.nextslicecap
  split
  · omega
  · split
    · omega
    · exact growBy_le m 4 c (by omega) (by omega)

/-- The cells that a slice or a string holds, one behind the other. -/
def aCellsOf (sz : Nat) (x : AV) (H : Heap) : Option (List AV) :=
  match x with
  | .nilSlice => some []
  | .slice sz' b off len ver _ =>
    match H[b]? with
    | some (.blk cells minv _) => if sz' = sz ∧ minv ≤ ver ∧ off + len * sz ≤ ver then some ((cells.drop off).take (len * sz)) else none
    | _ => none
  | .vals sz' xs _ => if sz' = sz ∧ 0 < sz then some xs else none
  | .str s => if sz = 1 then some (s.data.toList.map fun b => .int .u8 b.toNat) else none
  | _ => none
def aLen (x : AV) : Option Nat :=
  match x with
  | .nilSlice => some 0
  | .slice _ _ _ len _ _ => some len
  | .vals sz xs _ => if 0 < sz then some (xs.length / sz) else none
  | .str s => some s.size
  | _ => none

theorem run_lenOf {x : AV} {x' : Value} {n : Nat} (hx : VR φ x x') (hl : aLen x = some n) : (Builtin.lenOf x').run P w = .ok n w := by
  cases x <;> simp [aLen] at hl
  · subst hl; cases hx; rfl
  · subst hl; cases hx; rfl
  · subst hl; cases hx <;> rfl
  · obtain ⟨h0, rfl⟩ := hl
    cases hx with
    | vals hk hxs hl hC ha => rw [hl, Nat.mul_div_cancel _ h0]; rfl

theorem Rel.firstCells (h : Rel base w0 φ H w) {sz : Nat} {x : AV} {x' : Value} {cells : List AV} {n : Nat} (hx : VR φ x x') (hc : aCellsOf sz x H = some cells) (hn : aLen x = some n) :
    ∃ cs : List Value, (Builtin.firstCells sz n x').run P w = .ok cs.toArray w ∧ VRs φ cells cs ∧ cells.length = n * sz := by
  cases x <;> simp [aCellsOf] at hc
  · rename_i s
    obtain ⟨h1, rfl⟩ := hc
    simp [aLen] at hn; subst hn
    cases hx
    refine ⟨s.data.toList.map fun b => .int .u8 b.toNat, ?_, ?_, by simp [h1]⟩
    · have : s.extract 0 s.size = s := by simp
      simp only [Builtin.firstCells, this, Sem.run_pure]
      congr 1
      have e0 : s.data.toList.map (fun b : UInt8 => Value.int .u8 b.toNat) = (s.data.map fun b => Value.int .u8 b.toNat).toList := by rw [Array.toList_map]
      rw [e0]
    · exact VRs.of_get _ _ (by simp) fun i x hx => by
        simp at hx
        obtain ⟨b, hb, rfl⟩ := hx
        exact ⟨_, by simp [hb], .int _ _⟩
  · subst hc
    simp [aLen] at hn; subst hn
    cases hx
    exact ⟨[], by simp [Builtin.firstCells], .nil, by simp⟩
  · rename_i sz' b off len ver cap
    simp [aLen] at hn; subst hn
    split at hc
    · rename_i cl mv ro hb
      simp only [Option.ite_none_right_eq_some, Option.some.injEq] at hc
      obtain ⟨⟨rfl, h1, h2⟩, rfl⟩ := hc
      cases hx with
      | slice hφ hl hcap hS ha =>
        rename_i B o S C A
        have k := h.blk b cl mv ro hb _ _ _ _ hφ
        rcases ha with rfl | ⟨h0, a, rfl⟩
        · obtain ⟨ys, e1, e2⟩ := h.loadCells (P := P) hb hφ h1 (off := off) (n := len * sz') h2
          exact ⟨ys, by simp [Builtin.firstCells, e1], e2, by have := k.ver; simp; omega⟩
        · have hl0 : len = 0 := by omega
          subst hl0
          refine ⟨[], ?_, by simpa using VRs.nil, by simp⟩
          simp [Builtin.firstCells, Go.loadCells, loadCellsFrom]
      | slice0 hz => exact ⟨[], by simp [Builtin.firstCells], by simpa using VRs.nil, by simp⟩
    · cases hc
  · rename_i sz' xs nn
    obtain ⟨⟨rfl, h0⟩, rfl⟩ := hc
    simp [aLen] at hn
    obtain ⟨_, rfl⟩ := hn
    cases hx with
    | vals hk hxs hl hC ha =>
      rename_i ys B o len C A
      have hlen : xs.length / sz' = len := by rw [hl]; exact Nat.mul_div_cancel _ h0
      rw [hlen]
      rcases ha with rfl | ⟨hl0, ha⟩
      · obtain ⟨zs, e1, e2⟩ := h.knowCells (P := P) hk hxs (off := 0) (n := len * sz') (by omega)
        rw [List.drop_zero, List.take_of_length_le (by omega)] at e2
        exact ⟨zs, by simpa [Builtin.firstCells] using e1, e2, hl⟩
      · subst hl0
        have hx0 : xs = [] := List.eq_nil_of_length_eq_zero (by simpa using hl)
        subst hx0
        refine ⟨[], ?_, .nil, by simp⟩
        cases A <;> simp [Builtin.firstCells, Go.loadCells, loadCellsFrom]

/-! #### cells stored behind the newest version's end, where there is room -/
theorem Rel.storeBehind {b : Nat} {B S N : Nat} : ∀ (ys : List Value) (i : Nat) (cells : List AV) (mv : Nat) (w : World) (done : List Value), Rel base w0 φ H w → H[b]? = some (.blk cells mv false) → cells.length = N → φ b N = some (B, 0, S) →
    (∀ y, y ∈ ys → y.oneCell' = true) → N + i + ys.length ≤ S →
    (done.length = i) → (∀ (j : Nat) (y : Value), done[j]? = some y → w.cell? ⟨B, N + j, none⟩ = some y) →
    ∃ w', (Go.storeCells ⟨B, N, none⟩ ys i).run P w = .ok () w' ∧ Rel base w0 φ H w' ∧ ∀ (j : Nat) (y : Value), (done ++ ys)[j]? = some y → w'.cell? ⟨B, N + j, none⟩ = some y
  | [], i, cells, mv, w, done, h, hb, hN, hφ, _, _, _, hd => ⟨w, rfl, h, fun j y hy => hd j y (by simpa using hy)⟩
  | y :: ys, i, cells, mv, w, done, h, hb, hN, hφ, hone, hle, hdl, hd => by
    subst hN
    simp only [List.length_cons] at hle
    have k := h.blk b cells mv false hb _ B 0 S hφ
    obtain ⟨hB, _, hf⟩ := k.own rfl
    obtain ⟨c, e, fz, hc, hS⟩ := k.lies
    have hcell : w.cell? ⟨B, cells.length + i, none⟩ = some (c[cells.length + i]'(by omega)) := by
      simp [World.cell?, hc, Array.getElem?_eq_getElem (show cells.length + i < c.size by omega)]
    have hstep : (Go.storeCells ⟨B, cells.length, none⟩ (y :: ys) i).run P w = (Go.storeCells ⟨B, cells.length, none⟩ ys (i + 1)).run P (w.setCell ⟨B, cells.length + i, none⟩ y) := by
      simp only [Go.storeCells, Sem.run_bind, add_addr, run_store _ _ _ _ _ (hone y (by simp)), hcell, hf _ (show cells.length + i < S by omega)]
      rfl
    have hr : Rel base w0 φ H (w.setCell ⟨B, cells.length + i, none⟩ y) := by
      have hknow : ∀ B' j u, φ.K B' j = some u → (w.setCell ⟨B, cells.length + i, none⟩ y).cell? ⟨B', j, none⟩ = some u := fun B' j u hu' => by
        have hBB : B' ≠ B := fun e => by subst e; rw [k.free rfl j] at hu'; cases hu'
        rw [World.cell?_setCell_other _ _ _ _ (by simp; omega)]
        exact h.know _ _ _ hu'
      refine ⟨h.below.setCell hB _, by simpa using h.size, h.dom, fun b' v B' o' S' hX => by simpa using h.lt b' v B' o' S' hX, fun b' cl mv' ro hH v B' o' S' hX => ?_, hknow, h.zz, h.zdom, h.inj⟩
      have k' := h.blk b' cl mv' ro hH v B' o' S' hX
      obtain ⟨c', e', fz', hc', hS'⟩ := k'.lies
      have hnot : ¬(B' = B ∧ b' ≠ b) := fun ⟨e, hne⟩ => by subst e; exact h.inj b cells mv hb b' cells.length v B' 0 S o' S' (fun e => hne e.symm) hφ hX
      refine ⟨k'.ver, k'.min, k'.room, ?_, fun hm j z hj hz => ?_, fun hr => ⟨(k'.own hr).1, (k'.own hr).2.1, fun j hj => by rw [World.frozen?_setCell]; exact (k'.own hr).2.2 j hj⟩, k'.free⟩
      · by_cases hBB : B' = B
        · subst hBB
          rw [hc] at hc'
          injection hc' with hc'
          injection hc' with e1 e2 e3
          subst e1
          exact ⟨c.setIfInBounds (cells.length + i) y, e, fz, by simp [World.setCell, Array.getElem?_modify, hc], by simp; omega⟩
        · exact ⟨c', e', fz', by rw [Below.heap_setCell _ _ _ _ (by simpa using hBB)]; exact hc', hS'⟩
      · obtain ⟨t, h1, h2⟩ := k'.reads hm j z hj hz
        refine ⟨t, ?_, h2⟩
        rw [World.cell?_setCell_other _ _ _ _ ?_]
        · exact h1
        · intro he
          injection he with e1 e2
          have hbb : b' = b := Classical.byContradiction fun hne => hnot ⟨e1.symm, hne⟩
          subst hbb
          rw [hb] at hH
          injection hH with hH
          injection hH with e3
          subst e3
          have := k'.ver
          have ho : o' = 0 := by
            have := h.blk b' cells mv false hb v B' o' S' hX
            exact (this.own rfl).2.1
          omega
    obtain ⟨w', e1, e2, e3⟩ := Rel.storeBehind ys (i + 1) cells mv _ (done ++ [y]) hr hb rfl hφ (fun z hz => hone z (by simp [hz])) (by omega) (by simp [hdl]) (fun j z hz => by
      by_cases hj : j < done.length
      · rw [List.getElem?_append_left hj] at hz
        rw [World.cell?_setCell_other _ _ _ _ (by simp; omega)]
        exact hd j z hz
      · rw [List.getElem?_append_right (by omega)] at hz
        have hj0 : j - done.length = 0 := by
          have := (List.getElem?_eq_some_iff.1 hz).1
          simp at this; omega
        have hji : j = i := by omega
        subst hji
        rw [hj0] at hz
        simp at hz; subst hz
        exact World.cell?_setCell_same _ _ _ hcell)
    exact ⟨w', hstep.trans e1, e2, fun j z hz => e3 j z (by simpa using hz)⟩

/-- A newer version of a block, that lies where the newest one lay, or where nothing lay. -/
theorem Rel.grow (h : Rel base w0 φ H w) {b : Nat} {cells xs : List AV} {mv : Nat} (hb : H[b]? = some (.blk cells mv false)) (hmv : mv ≤ cells.length) (hz : φ.Z b = false) (hx : 0 < xs.length) {B S : Nat} (hK : ∀ i, φ.K B i = none) (hB : base ≤ B) (hown : ∀ b' v' o' S', φ b' v' = some (B, o', S') → b' = b)
    (hS : cells.length + xs.length ≤ S) (hl : ∃ c e fz, w.heap[B]? = some (.cells c e fz) ∧ S ≤ c.size) (hf : ∀ i, i < S → w.frozen? ⟨B, i, none⟩ = false)
    (hc : ∀ (i : Nat) (x : AV), (cells ++ xs)[i]? = some x → ∃ y, w.cell? ⟨B, i, none⟩ = some y ∧ VR φ x y) :
    Rel base w0 (φ.put b (cells.length + xs.length) (B, 0, S)) (H.set b (.blk (cells ++ xs) mv false)) w ∧ Ext base H.length φ (φ.put b (cells.length + xs.length) (B, 0, S)) := by
  have hbl : b < H.length := (List.getElem?_eq_some_iff.1 hb).1
  have hnone : φ b (cells.length + xs.length) = none := by
    cases hh : φ b (cells.length + xs.length) with
    | none => rfl
    | some X =>
      obtain ⟨B', o', S'⟩ := X
      have := (h.blk b cells mv false hb _ B' o' S' hh).ver
      omega
  have hsub := Phi.put_sub (b := b) (v := cells.length + xs.length) (X := (B, 0, S)) (.inl hnone)
  have hBlt : B < w.heap.size := by
    obtain ⟨c, e, fz, hc', _⟩ := hl
    exact (Array.getElem?_eq_some_iff.1 hc').1
  refine ⟨⟨h.below, h.size, fun b' v X hX => ?_, fun b' v B' o' S' hX => ?_, fun b' cl mv' ro hH v B' o' S' hX => ?_, h.know, fun b' v hz' => ?_, fun b' hz' => ?_, fun b' cl mv' hH b'' v v' B' o' S' o'' S'' hne h1 h2 => ?_⟩, hsub, fun b' hb' hn => (if_neg (show ¬ b' = b from fun e => by subst e; rw [hn] at hz; cases hz)).trans hn, fun _ _ _ _ e => e⟩
  · rw [List.length_set]
    by_cases hh : b' = b ∧ v = cells.length + xs.length
    · rw [hh.1]; exact hbl
    · rw [Phi.put_other hh] at hX; exact h.dom _ _ _ hX
  · by_cases hh : b' = b ∧ v = cells.length + xs.length
    · rw [hh.1, hh.2, Phi.put_same] at hX
      simp only [Option.some.injEq, Prod.mk.injEq] at hX
      omega
    · rw [Phi.put_other hh] at hX; exact h.lt _ _ _ _ _ hX
  · by_cases hbb : b' = b
    · subst hbb
      rw [List.getElem?_set_self hbl] at hH
      simp only [Option.some.injEq, AObj.blk.injEq] at hH
      obtain ⟨rfl, rfl, rfl⟩ := hH
      by_cases hv : v = cells.length + xs.length
      · subst hv
        rw [Phi.put_same] at hX
        simp only [Option.some.injEq, Prod.mk.injEq] at hX
        obtain ⟨rfl, rfl, rfl⟩ := hX
        obtain ⟨c, e, fz, hc', hS'⟩ := hl
        refine ⟨by simp, by simp; omega, hS, ⟨c, e, fz, hc', by omega⟩, fun _ i x hi hxi => ?_, fun _ => ⟨hB, rfl, hf⟩, fun _ => hK⟩
        obtain ⟨y, h1, h2⟩ := hc i x hxi
        exact ⟨y, by simpa using h1, h2.mono hsub⟩
      · rw [Phi.put_other (by omega)] at hX
        have k := h.blk b' cells mv false hb v B' o' S' hX
        refine ⟨by have := k.ver; simp; omega, by simp; omega, k.room, k.lies, fun hm i x hi hxi => ?_, k.own, k.free⟩
        have hi' : i < cells.length := by have := k.ver; omega
        rw [List.getElem?_append_left hi'] at hxi
        obtain ⟨y, h1, h2⟩ := k.reads hm i x hi hxi
        exact ⟨y, h1, h2.mono hsub⟩
    · rw [List.getElem?_set_ne (by omega)] at hH
      rw [Phi.put_other (by omega)] at hX
      have k := h.blk b' cl mv' ro hH v B' o' S' hX
      exact ⟨k.ver, k.min, k.room, k.lies, fun hm i x hi hx => let ⟨y, h1, h2⟩ := k.reads hm i x hi hx; ⟨y, h1, h2.mono hsub⟩, k.own, k.free⟩
  · have hz2 : (if b' = b then false else φ.Z b') = true := hz'
    split at hz2
    · cases hz2
    · rw [Phi.put_other (by omega)]
      exact h.zz _ _ hz2
  · rw [List.length_set]
    have hz2 : (if b' = b then false else φ.Z b') = false := hz'
    split at hz2
    · rename_i e; rw [e]; exact hbl
    · exact h.zdom _ hz2
  · have hH' : ∃ cl0 mv0, H[b']? = some (.blk cl0 mv0 false) := by
      by_cases hbb : b' = b
      · subst hbb; exact ⟨_, _, hb⟩
      · rw [List.getElem?_set_ne (by omega)] at hH; exact ⟨_, _, hH⟩
    obtain ⟨cl0, mv0, hH0⟩ := hH'
    by_cases ha : b' = b ∧ v = cells.length + xs.length
    · rw [ha.1, ha.2, Phi.put_same] at h1
      simp only [Option.some.injEq, Prod.mk.injEq] at h1
      obtain ⟨rfl, _, _⟩ := h1
      by_cases hc2 : b'' = b ∧ v' = cells.length + xs.length
      · exact hne (by omega)
      · rw [Phi.put_other hc2] at h2
        exact hne (by rw [ha.1]; exact (hown _ _ _ _ h2).symm)
    · rw [Phi.put_other ha] at h1
      by_cases hc2 : b'' = b ∧ v' = cells.length + xs.length
      · rw [hc2.1, hc2.2, Phi.put_same] at h2
        simp only [Option.some.injEq, Prod.mk.injEq] at h2
        obtain ⟨rfl, _, _⟩ := h2
        exact hne (by rw [hc2.1]; exact hown _ _ _ _ h1)
      · rw [Phi.put_other hc2] at h2
        exact h.inj b' cl0 mv0 hH0 b'' v v' B' o' S' o'' S'' hne h1 h2

/-! #### append -/
def isIntD : TypeDesc → Bool
  | .int _ => true
  | _ => false
def aNewRow (sz : Nat) (cells : List AV) (n : Nat) (H : Heap) : AV × Heap := (.slice sz H.length 0 n cells.length none, H ++ [.blk cells cells.length false])
def aAppendTo (sz n : Nat) (xs : List AV) (s : AV) (H : Heap) : Option (AV × Heap) :=
  match s with
  | .nilSlice => some (aNewRow sz xs n H)
  | .slice sz' b off len ver cap =>
    if sz' = sz then
      match cap with
      | some c =>
        if len + n ≤ c then
          match H[b]? with
          | some (.blk cells _ false) => if ver = cells.length ∧ off + (len + n) * sz ≤ cells.length then some (.slice sz b off (len + n) ver (some c), H.set b (.blk (splice cells (off + len * sz) xs) cells.length false)) else none
          | _ => none
        else
          match aCellsOf sz s H with
          | some old => some (aNewRow sz (old ++ xs) (len + n) H)
          | none => none
      | none =>
        match H[b]? with
        | some (.blk cells mv false) => if off = 0 ∧ len * sz = cells.length ∧ ver = cells.length ∧ mv ≤ cells.length then some (.slice sz b 0 (len + n) (cells.length + xs.length) none, H.set b (.blk (cells ++ xs) mv false)) else none
        | _ => none
    else none
  | _ => none
def aLenS (s : AV) : Nat := match s with | .slice _ _ _ len _ _ => len | .vals sz xs _ => xs.length / sz | _ => 0
def aAppend (P : Program) (sT xT : TypeId) (s x : AV) (H : Heap) : Option (AV × Heap) :=
  match P.underlying sT, P.underlying xT with
  | some (.slice e), some dx =>
    match P.info? e, zeroA P e with
    | some i, some zs =>
      match aLen x, aCellsOf i.size x H with
      | some n, some xs =>
        if isIntD dx = false ∧ zs.length = i.size ∧ 0 < i.size ∧ 0 < i.bytes ∧ (aLenS s + n) * i.bytes ≤ 140737488355328 ∧ xs.all AV.one = true then
          if n = 0 then (match s with | .nilSlice => some (s, H) | .slice .. => some (s, H) | .vals .. => some (s, H) | _ => none) else aAppendTo i.size n xs s H
        else none
      | _, _ => none
    | _, _ => none
  | _, _ => none

theorem ext_id (h : Rel base w0 φ H w) : Ext base H.length φ φ := Ext.refl _ _ _

theorem VRs.ones {xs : List AV} {ys : List Value} (h : VRs φ xs ys) (ho : xs.all AV.one = true) : ∀ y, y ∈ ys → y.oneCell' = true := by
  intro y hy
  obtain ⟨j, hj, rfl⟩ := List.mem_iff_getElem.1 hy
  have hl := h.length
  obtain ⟨y', h1, h2⟩ := h.get j xs[j] (List.getElem?_eq_getElem (by omega))
  rw [List.getElem?_eq_getElem hj] at h1
  injection h1 with h1
  subst h1
  exact h2.oneCell (List.all_eq_true.1 ho _ (List.getElem_mem _))
end
end Go.Ab
