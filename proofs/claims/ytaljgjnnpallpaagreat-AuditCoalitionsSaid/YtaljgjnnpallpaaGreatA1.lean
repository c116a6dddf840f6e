/- The operations on the abstract memory, one by one, each with the proof that the machine's operation does the same: values, loads, stores, new variables, structs, addresses. -/
import Derived.Test.YtaljgjnnpallpaaGreatA0
set_option linter.unusedVariables false
set_option linter.unusedSimpArgs false
namespace Go.Ab
open Go.RowKit

def ofV : Nat → Value → AV
  | 0, _ => .unk
  | n + 1, v => match v with
    | .bool b => .bool b
    | .int k i => .int k i
    | .string s => .str s
    | .pointer none => .nilPtr
    | .slice none 0 0 => .nilSlice
    | .func (.func f) a b => .func f (a.toList.map (ofV n)) (b.toList.map (ofV n))
    | .nilFunc => .nilFunc
    | .iface t v => .iface t (ofV n v)
    | .nilIface => .nilIface
    | .agg cs => .agg (cs.toList.map (ofV n))
    | .tuple cs => .tuple (cs.toList.map (ofV n))
    | _ => .unk

theorem VRs.map_of {φ : Phi} (f : Value → AV) (h : ∀ v, VR φ (f v) v) : ∀ l : List Value, VRs φ (l.map f) l
  | [] => .nil
  | v :: l => .cons (h v) (VRs.map_of f h l)
theorem ofV_ok (φ : Phi) : ∀ (n : Nat) (v : Value), VR φ (ofV n v) v
  | 0, v => .unk v
  | n + 1, v => by
    unfold ofV
    split
    · exact .bool _
    · exact .int _ _
    · exact .str _
    · exact .nilPtr
    · exact .nilSlice
    · exact .func (VRs.map_of _ (ofV_ok φ n) _) (VRs.map_of _ (ofV_ok φ n) _)
    · exact .nilFunc
    · exact .iface (ofV_ok φ n _)
    · exact .nilIface
    · exact .agg (VRs.map_of _ (ofV_ok φ n) _)
    · exact .tuple (VRs.map_of _ (ofV_ok φ n) _)
    · exact .unk _

/-! ### the temporaries -/
def TR (φ : Phi) (ts : List AV) (tmps : Array Value) : Prop := VRs φ ts tmps.toList
def undefA : AV := .tuple []
def look (ts : List AV) : Operand → AV
  | .tmp t => ts.getD t undefA
  | .const v => ofV 4 v
  | .global _ => .unk
  | .func f => .func f [] []
theorem TR.get {φ : Phi} {ts : List AV} {tmps : Array Value} (h : TR φ ts tmps) (t : Nat) : VR φ (ts.getD t undefA) (tmps.getD t undef) := by
  rw [List.getD_eq_getElem?_getD]
  cases hx : ts[t]? with
  | none =>
    have hl := VRs.length h
    have : tmps.size ≤ t := by
      have := List.getElem?_eq_none_iff.1 hx
      simp at hl; omega
    simp [Array.getD, Nat.not_lt.2 this, undefA, undef]
    exact .tuple .nil
  | some x =>
    obtain ⟨y, h1, h2⟩ := VRs.get h t x hx
    simp at h1
    have hlt : t < tmps.size := by
      rcases Nat.lt_or_ge t tmps.size with h' | h'
      · exact h'
      · simp [Array.getElem?_eq_none h'] at h1
    simp only [Array.getD, hlt, dif_pos, Option.getD_some]
    have : tmps[t] = y := by simpa [Array.getElem?_eq_getElem hlt] using h1
    simpa [this] using h2
theorem TR.look {φ : Phi} {ts : List AV} {a : Act} (h : TR φ ts a.tmps) : ∀ x : Operand, VR φ (look ts x) (a.eval x)
  | .tmp t => h.get t
  | .const v => ofV_ok φ 4 v
  | .global g => .unk _
  | .func f => .func .nil .nil
theorem TR.mono {φ φ' : Phi} {ts : List AV} {tmps : Array Value} (h : TR φ ts tmps) (he : Sub φ φ') : TR φ' ts tmps := VRs.mono he h
def putA (ts : List AV) (d : Option Tmp) (v : AV) : List AV := match d with | some t => ts.set t v | none => ts
theorem TR.put {φ : Phi} {ts : List AV} {a : Act} (h : TR φ ts a.tmps) (d : Option Tmp) {x : AV} {y : Value} (hx : VR φ x y) : TR φ (putA ts d x) (a.put d y).tmps := by
  cases d with
  | none => exact h
  | some t =>
    show VRs φ (ts.set t x) (a.tmps.setIfInBounds t y).toList
    rw [Array.toList_setIfInBounds]
    exact h.set t hx
theorem put_defers (a : Act) (d : Option Tmp) (v : Value) : (a.put d v).defers = a.defers := by cases d <;> rfl

/-! ### what an operation does -/
/-- The machine's 'sem' does what the abstract memory says. -/
def Does (base : Nat) (w0 : World) (P : Program) (φ : Phi) (H : Heap) (w : World) (s : Sem Value) (r : AV) (H' : Heap) : Prop :=
  ∃ v w' φ', s.run P w = .ok v w' ∧ Ext base H.length φ φ' ∧ H.length ≤ H'.length ∧ Rel base w0 φ' H' w' ∧ VR φ' r v

section
variable {base : Nat} {w0 : World} {P : Program} {φ : Phi} {H : Heap} {w : World}

theorem does_pure (h : Rel base w0 φ H w) {s : Sem Value} {r : AV} {v : Value} (hs : s.run P w = .ok v w) (hr : VR φ r v) : Does base w0 P φ H w s r H :=
  ⟨v, w, φ, hs, Ext.refl _ _ _, Nat.le_refl _, h, hr⟩

theorem run_typeInfo {t : TypeId} {i : TypeInfo} (h : P.info? t = some i) (w : World) : (typeInfo t).run P w = .ok i w := by simp [typeInfo, h]
theorem run_under {t : TypeId} {d : TypeDesc} (h : P.underlying t = some d) (w : World) : (underlying t).run P w = .ok d w := by simp [underlying, h]
theorem run_sizeOf {t : TypeId} {i : TypeInfo} (h : P.info? t = some i) (w : World) : (sizeOf t).run P w = .ok i.size w := by simp [sizeOf, run_typeInfo h]
def isAggD : TypeDesc → Bool
  | .struct _ | .array _ _ => true
  | _ => false
theorem run_isAgg {t : TypeId} {d : TypeDesc} (h : P.underlying t = some d) (w : World) : (isAgg t).run P w = .ok (isAggD d) w := by
  simp only [isAgg, Sem.run_bind, run_under h, Result.andThen_ok]
  cases d <;> rfl
theorem run_zeroValue {t : TypeId} {i : TypeInfo} {v : Value} (h : P.info? t = some i) (hz : i.zero = some v) (w : World) : (zeroValue t).run P w = .ok v w := by simp [zeroValue, run_typeInfo h, hz]

/-! #### load -/
def aLoad (P : Program) (t : TypeId) (p : AV) (H : Heap) : Option AV :=
  match p with
  | .ptr b off ver =>
    match H[b]?, P.underlying t, P.info? t with
    | some (.blk cells minv _), some d, some i =>
      if minv ≤ ver ∧ off + i.size ≤ ver ∧ off < ver then
        if isAggD d then some (.agg ((cells.drop off).take i.size)) else cells[off]?
      else none
    | _, _, _ => none
  | .cptr xs =>
    match P.underlying t, P.info? t with
    | some d, some i => if isAggD d then (if i.size ≤ xs.length then some (.agg (xs.take i.size)) else none) else xs[0]?
    | _, _ => none
  | _ => none

theorem run_loadCellsFrom {B o : Nat} (cells : List AV) : ∀ (n i : Nat) (acc : Array Value), (∀ j, j < n → ∃ y, w.cell? ⟨B, o + i + j, none⟩ = some y) →
    ∃ ys : List Value, (loadCellsFrom ⟨B, o, none⟩ i n acc).run P w = .ok (acc ++ ys.toArray) w ∧ ys.length = n ∧ ∀ j, j < n → ∃ y, ys[j]? = some y ∧ w.cell? ⟨B, o + i + j, none⟩ = some y
  | 0, i, acc, _ => ⟨[], by simp [loadCellsFrom], rfl, fun j hj => absurd hj (Nat.not_lt_zero _)⟩
  | n + 1, i, acc, h => by
    obtain ⟨y, hy⟩ := h 0 (by omega)
    have ha : (⟨B, o, none⟩ : Addr).add i = ⟨B, o + i + 0, none⟩ := by
      unfold Addr.add
      split
      · rename_i h0; subst h0; rfl
      · rfl
    obtain ⟨ys, h1, h2, h3⟩ := run_loadCellsFrom cells n (i + 1) (acc.push y) fun j hj => by
      obtain ⟨z, hz⟩ := h (j + 1) (by omega)
      exact ⟨z, by rw [show o + (i + 1) + j = o + i + (j + 1) by omega]; exact hz⟩
    refine ⟨y :: ys, ?_, by simp [h2], fun j hj => ?_⟩
    · simp only [loadCellsFrom, Sem.run_bind, run_load, ha, hy, Result.andThen_ok, h1]
      simp
    · cases j with
      | zero => exact ⟨y, rfl, hy⟩
      | succ j =>
        obtain ⟨z, hz1, hz2⟩ := h3 j (by omega)
        exact ⟨z, by simpa using hz1, by rw [show o + i + (j + 1) = o + (i + 1) + j by omega]; exact hz2⟩

/-- Cells of a version that may be read, all at once. -/
theorem Rel.loadCells (h : Rel base w0 φ H w) {b : Nat} {cells : List AV} {mv : Nat} {ro : Bool} (hb : H[b]? = some (.blk cells mv ro)) {v B o S : Nat} (hφ : φ b v = some (B, o, S)) (hm : mv ≤ v) {off n : Nat} (hn : off + n ≤ v) :
    ∃ ys : List Value, (loadCells ⟨B, o + off, none⟩ n).run P w = .ok ys.toArray w ∧ VRs φ ((cells.drop off).take n) ys := by
  have k := h.blk b cells mv ro hb v B o S hφ
  have hc : ∀ j, j < n → ∃ x y, cells[off + j]? = some x ∧ w.cell? ⟨B, o + off + j, none⟩ = some y ∧ VR φ x y := fun j hj => by
    have hlt : off + j < cells.length := by have := k.ver; omega
    obtain ⟨y, h1, h2⟩ := k.reads hm (off + j) _ (by omega) (List.getElem?_eq_getElem hlt)
    exact ⟨_, y, List.getElem?_eq_getElem hlt, by rw [Nat.add_assoc]; exact h1, h2⟩
  obtain ⟨ys, h1, h2, h3⟩ := run_loadCellsFrom (P := P) (w := w) (B := B) (o := o + off) cells n 0 #[] fun j hj => by
    obtain ⟨x, y, _, hy, _⟩ := hc j hj
    exact ⟨y, by simpa using hy⟩
  refine ⟨ys, by simpa [Go.loadCells] using h1, VRs.of_get _ _ ?_ fun i x hx => ?_⟩
  · have := k.ver; simp [h2]; omega
  · have hi : i < n := by
      have := (List.getElem?_eq_some_iff.1 hx).1
      simp at this; omega
    obtain ⟨x', y, hx', hy, hxy⟩ := hc i hi
    obtain ⟨y', hy1, hy2⟩ := h3 i hi
    rw [List.getElem?_take_of_lt hi, List.getElem?_drop] at hx
    rw [hx'] at hx; injection hx with hx; subst hx
    simp at hy2
    rw [hy] at hy2; injection hy2 with hy2; subst hy2
    exact ⟨_, hy1, hxy⟩

/-- Cells that stay as they are. -/
theorem Rel.knowCells (h : Rel base w0 φ H w) {B o : Nat} {xs : List AV} {ys : List Value} (hk : ∀ (i : Nat) (y : Value), ys[i]? = some y → φ.K B (o + i) = some y) (hx : VRs φ.pure xs ys) {off n : Nat} (hn : off + n ≤ xs.length) :
    ∃ zs : List Value, (Go.loadCells ⟨B, o + off, none⟩ n).run P w = .ok zs.toArray w ∧ VRs φ ((xs.drop off).take n) zs := by
  have hlen := hx.length
  have hc : ∀ j, j < n → ∃ y, ys[off + j]? = some y ∧ w.cell? ⟨B, o + off + 0 + j, none⟩ = some y := fun j hj => by
    have hlt : off + j < ys.length := by omega
    refine ⟨_, List.getElem?_eq_getElem hlt, ?_⟩
    have := h.know _ _ _ (hk _ _ (List.getElem?_eq_getElem hlt))
    rw [show o + off + 0 + j = o + (off + j) by omega]
    exact this
  obtain ⟨zs, h1, h2, h3⟩ := run_loadCellsFrom (P := P) (w := w) (B := B) (o := o + off) [] n 0 #[] fun j hj => let ⟨y, _, h2⟩ := hc j hj; ⟨y, h2⟩
  refine ⟨zs, by simpa [Go.loadCells] using h1, VRs.of_get _ _ (by simp; omega) fun i x hxi => ?_⟩
  have hi : i < n := by
    have := (List.getElem?_eq_some_iff.1 hxi).1
    simp at this; omega
  rw [List.getElem?_take_of_lt hi, List.getElem?_drop] at hxi
  obtain ⟨y, hy1, hy2⟩ := hx.get _ _ hxi
  obtain ⟨y', g1, g2⟩ := hc i hi
  obtain ⟨z, k1, k2⟩ := h3 i hi
  rw [hy1] at g1; injection g1 with g1; subst g1
  rw [g2] at k2; injection k2 with k2; subst k2
  exact ⟨_, k1, hy2.mono φ.pure_sub⟩

theorem aLoad_ok (h : Rel base w0 φ H w) {t : TypeId} {p r : AV} {p' : Value} (hp : VR φ p p') (hl : aLoad P t p H = some r) : ∃ v, (Instr.loadAt t p').run P w = .ok v w ∧ VR φ r v := by
  unfold aLoad at hl
  split at hl
  · rename_i b off ver
    split at hl
    · rename_i cells mv ro d i hb hd hi
      split at hl
      · rename_i hc
        cases hp with
        | ptr hφ =>
          rename_i B o S
          have k := h.blk b cells mv ro hb ver B o S hφ
          split at hl
          · rename_i hagg
            injection hl with hl; subst hl
            obtain ⟨ys, h1, h2⟩ := h.loadCells (P := P) hb hφ hc.1 (off := off) (n := i.size) hc.2.1
            refine ⟨.agg ys.toArray, ?_, .agg (by simpa using h2)⟩
            simp [Instr.loadAt, Instr.sureAddr, loadVar, run_isAgg hd, hagg, run_sizeOf hi, h1]
          · rename_i hagg
            obtain ⟨y, h1, h2⟩ := k.reads hc.1 off r hc.2.2 hl
            refine ⟨y, ?_, h2⟩
            simp [Instr.loadAt, Instr.sureAddr, loadVar, run_isAgg hd, hagg, h1]
      · cases hl
    · cases hl
  · rename_i xs
    split at hl
    · rename_i d i hd hi
      cases hp with
      | cptr hk hx =>
      rename_i ys B o
      split at hl
      · rename_i hagg
        split at hl
        · rename_i hle
          injection hl with hl; subst hl
          obtain ⟨zs, h1, h2⟩ := h.knowCells (P := P) hk hx (off := 0) (n := i.size) (by omega)
          refine ⟨.agg zs.toArray, ?_, .agg (by simpa using h2)⟩
          simp only [Nat.add_zero] at h1
          simp [Instr.loadAt, Instr.sureAddr, loadVar, run_isAgg hd, hagg, run_sizeOf hi, h1]
        · cases hl
      · rename_i hagg
        obtain ⟨y, h1, h2⟩ := hx.get 0 r hl
        have h3 := h.know _ _ _ (hk _ _ h1)
        refine ⟨y, ?_, h2.mono φ.pure_sub⟩
        simp only [Nat.add_zero] at h3
        simp [Instr.loadAt, Instr.sureAddr, loadVar, run_isAgg hd, hagg, h3]
    · cases hl
  · cases hl

/-! #### store -/
def splice (cells : List AV) (off : Nat) (vs : List AV) : List AV := cells.take off ++ vs ++ cells.drop (off + vs.length)
theorem splice_length {cells vs : List AV} {off : Nat} (h : off + vs.length ≤ cells.length) : (splice cells off vs).length = cells.length := by simp [splice]; omega
theorem splice_nil (cells : List AV) (off : Nat) : splice cells off [] = cells := by simp [splice]
theorem splice_get {cells vs : List AV} {off : Nat} (h : off + vs.length ≤ cells.length) (i : Nat) : (splice cells off vs)[i]? = if i < off then cells[i]? else if i < off + vs.length then vs[i - off]? else cells[i]? := by
  unfold splice
  rw [List.append_assoc]
  have hl : (cells.take off).length = off := by simp; omega
  split
  · rw [List.getElem?_append_left (by omega), List.getElem?_take_of_lt (by assumption)]
  · rw [List.getElem?_append_right (by omega), hl]
    split
    · rw [List.getElem?_append_left (by omega)]
    · rw [List.getElem?_append_right (by omega), List.getElem?_drop]
      congr 1; omega
theorem splice_cons {cells : List AV} {off : Nat} {x : AV} {vs : List AV} (h : off + vs.length + 1 ≤ cells.length) : splice cells off (x :: vs) = splice (cells.set off x) (off + 1) vs := by
  apply List.ext_getElem?
  intro i
  rw [splice_get (by simp; omega), splice_get (by simp; omega)]
  simp only [List.length_cons]
  by_cases h1 : i < off
  · rw [if_pos h1, if_pos (by omega), List.getElem?_set_ne (by omega)]
  · rw [if_neg h1]
    by_cases h2 : i = off
    · subst h2
      rw [if_pos (by omega), if_pos (by omega), List.getElem?_set_self (by omega)]
      simp
    · rw [if_neg (show ¬ i < off + 1 by omega)]
      by_cases h3 : i < off + 1 + vs.length
      · rw [if_pos (by omega), if_pos h3, show i - off = (i - (off + 1)) + 1 by omega]
        simp
      · rw [if_neg (by omega), if_neg h3, List.getElem?_set_ne (by omega)]

def aStore (P : Program) (t : TypeId) (p v : AV) (H : Heap) : Option Heap :=
  match p with
  | .ptr b off ver =>
    match H[b]?, P.info? t with
    | some (.blk cells _ false), some i =>
      if ver = cells.length ∧ v.cells.length = i.size ∧ off + i.size ≤ cells.length ∧ v.cells.all AV.one = true then some (H.set b (.blk (splice cells off v.cells) cells.length false)) else none
    | _, _ => none
  | _ => none

/-- Cells of the newest version, stored one behind the other. -/
theorem Rel.storeCells {b : Nat} {B S : Nat} {N : Nat} : ∀ (xs : List AV) (ys : List Value) (off i : Nat) (cells : List AV) (mv : Nat) (H : Heap) (w : World), Rel base w0 φ H w → H[b]? = some (.blk cells mv false) → cells.length = N → φ b N = some (B, 0, S) →
    VRs φ xs ys → xs.all AV.one = true → off + i + xs.length ≤ N → 0 < xs.length →
    ∃ w', (Go.storeCells ⟨B, off, none⟩ ys i).run P w = .ok () w' ∧ Rel base w0 φ (H.set b (.blk (splice cells (off + i) xs) N false)) w'
  | [], _, _, _, _, _, _, _, _, _, _, _, _, _, _, h0 => absurd h0 (Nat.lt_irrefl _)
  | x :: xs, _, off, i, cells, mv, H, w, h, hb, hN, hφ, .cons hx hxs, hone, hle, _ => by
    rename_i y ys _
    subst hN
    simp only [List.length_cons] at hle
    obtain ⟨⟨u, hu⟩, hf, hr⟩ := h.store hb (i := off + i) hφ (by omega) hx
    simp only [List.all_cons, Bool.and_eq_true] at hone
    have ha : (⟨B, off, none⟩ : Addr).add i = ⟨B, 0 + (off + i), none⟩ := by
      unfold Addr.add
      split
      · rename_i h0; subst h0; simp
      · simp
    have hbl : b < H.length := (List.getElem?_eq_some_iff.1 hb).1
    have hstep : (Go.storeCells ⟨B, off, none⟩ (y :: ys) i).run P w = (Go.storeCells ⟨B, off, none⟩ ys (i + 1)).run P (w.setCell ⟨B, 0 + (off + i), none⟩ y) := by
      simp only [Go.storeCells, Sem.run_bind, ha, run_store _ _ _ _ _ (hx.oneCell hone.1), hu, hf]
      rfl
    cases xs with
    | nil =>
      cases hxs with
      | nil =>
        refine ⟨w.setCell ⟨B, 0 + (off + i), none⟩ y, hstep.trans rfl, ?_⟩
        rw [splice_cons (by simp; omega), splice_nil]
        exact hr
    | cons x2 xs2 =>
      obtain ⟨w', h1, h2⟩ := Rel.storeCells (x2 :: xs2) ys off (i + 1) (cells.set (off + i) x) cells.length _ _ hr (by rw [List.getElem?_set_self hbl]) (by simp) hφ hxs hone.2 (by simp at hle ⊢; omega) (by simp)
      refine ⟨w', hstep.trans h1, ?_⟩
      rw [splice_cons (by simp at hle ⊢; omega)]
      simpa [List.set_set, Nat.add_assoc] using h2

theorem aStore_ok (h : Rel base w0 φ H w) {t : TypeId} {p x : AV} {p' x' : Value} {H' : Heap} (hp : VR φ p p') (hx : VR φ x x') (hs : aStore P t p x H = some H') :
    ∃ w', (Instr.storeAt t p' x').run P w = .ok () w' ∧ Rel base w0 φ H' w' ∧ H'.length = H.length := by
  unfold aStore at hs
  split at hs
  · rename_i b off ver
    split at hs
    · rename_i cells mv i hb hi
      split at hs
      · rename_i hc
        obtain ⟨rfl, h1, h2, h3⟩ := hc
        injection hs with hs; subst hs
        cases hp with
        | ptr hφ =>
          rename_i B o S
          have k := h.blk b cells mv false hb _ B o S hφ
          obtain ⟨_, rfl, _⟩ := k.own rfl
          have hne : x ≠ .unk := fun e => by subst e; simp [AV.cells, AV.one] at h3
          have hcs := hx.cells hne
          have hlen : x'.cells.size = i.size := by have := hcs.length; simp at this; omega
          rcases Nat.eq_zero_or_pos x.cells.length with h0 | h0
          · have hx0 : x.cells = [] := List.eq_nil_of_length_eq_zero h0
            have hy0 : x'.cells.toList = [] := List.eq_nil_of_length_eq_zero (by rw [← hcs.length]; exact h0)
            refine ⟨w, ?_, ?_, by simp⟩
            · simp [Instr.storeAt, Instr.sureAddr, storeVar, run_sizeOf hi, hlen, hy0, Go.storeCells]
            · rw [hx0, splice_nil]
              have hbl : b < H.length := (List.getElem?_eq_some_iff.1 hb).1
              refine ⟨h.below, h.size, fun b' v X hX => by simpa using h.dom b' v X hX, h.lt, fun b' cl mv' ro hH v B' o' S' hX => ?_, h.know, h.zz, fun b' hz => by simpa using h.zdom _ hz, fun b' cl mv' hH => ?_⟩
              · by_cases hbb : b' = b
                · subst hbb
                  rw [List.getElem?_set_self hbl] at hH
                  simp only [Option.some.injEq, AObj.blk.injEq] at hH
                  obtain ⟨rfl, rfl, rfl⟩ := hH
                  have k' := h.blk b' cells mv false hb v B' o' S' hX
                  exact ⟨k'.ver, Nat.le_refl _, k'.room, k'.lies, fun hm => k'.reads (Nat.le_trans k'.min hm), k'.own, k'.free⟩
                · rw [List.getElem?_set_ne (by omega)] at hH
                  exact h.blk b' cl mv' ro hH v B' o' S' hX
              · by_cases hbb : b' = b
                · subst hbb; exact h.inj b' cells mv hb
                · rw [List.getElem?_set_ne (by omega)] at hH
                  exact h.inj b' cl mv' hH
          · obtain ⟨w', e1, e2⟩ := Rel.storeCells (P := P) x.cells x'.cells.toList off 0 cells mv H w h hb rfl hφ hcs h3 (by omega) h0
            refine ⟨w', ?_, by simpa using e2, by simp⟩
            simp [Instr.storeAt, Instr.sureAddr, storeVar, run_sizeOf hi, hlen, e1]
      · cases hs
    · cases hs
  · cases hs

/-! #### new variables -/
/-- A new block: its cells, and what looks at it. -/
def Born (base : Nat) (w0 : World) (P : Program) (φ : Phi) (H : Heap) (w : World) (s : Sem Value) (cells : List AV) (mk : Nat → AV) : Prop :=
  ∀ b H2, φ.Z b = true → H2[b]? = some (.blk cells cells.length false) → (∀ b', b' ≠ b → H2[b']? = H[b']?) → H.length ≤ H2.length →
    ∃ v w' φ', s.run P w = .ok v w' ∧ Sub φ φ' ∧ (∀ c, c ≠ b → φ.Z c = true → φ'.Z c = true) ∧ (∀ B i v, φ'.K B i = some v → φ.K B i = some v) ∧ Rel base w0 φ' H2 w' ∧ VR φ' (mk b) v

theorem Born.does (h : Rel base w0 φ H w) {s : Sem Value} {cells : List AV} {mk : Nat → AV} (k : Born base w0 P φ H w s cells mk) : Does base w0 P φ H w s (mk H.length) (H ++ [.blk cells cells.length false]) := by
  obtain ⟨v, w', φ', e1, e2, e3, e4, e5, e6⟩ := k H.length (H ++ [.blk cells cells.length false]) (h.fresh (Nat.le_refl _)) (by simp) (fun b' hb' => by
    rcases Nat.lt_or_ge b' H.length with hlt | hge
    · rw [List.getElem?_append_left hlt]
    · rw [List.getElem?_eq_none (by simp; omega), List.getElem?_eq_none hge]) (by simp)
  exact ⟨v, w', φ', e1, ⟨e2, fun b hb hn => e3 b (by omega) hn, fun B i v _ e => e4 B i v e⟩, by simp, e5, e6⟩

theorem born (h : Rel base w0 φ H w) {s : Sem Value} {cells : List AV} {mk : Nat → AV} (cs : Array Value) (e : TypeId) (hl : cells.length ≤ cs.size) (hv : ∀ (i : Nat) (x : AV), cells[i]? = some x → ∃ y : Value, cs[i]? = some y ∧ VR φ x y) {v : Value}
    (hs : s.run P w = .ok v (w.alloc (.cells cs e (0, 0)))) (hr : ∀ b φ', φ' b cells.length = some (w.heap.size, 0, cs.size) → VR φ' (mk b) v) : Born base w0 P φ H w s cells mk := by
  intro b H2 hz hb ho hlen
  obtain ⟨h1, h2⟩ := h.newAt cells cs e hl hv (0, 0) (.inl (Nat.le_refl _)) hz hb ho hlen
  exact ⟨v, _, _, hs, h2, fun c hc hn => (if_neg hc).trans hn, fun _ _ _ e => e, h1, hr _ _ (Phi.put_same _ _ _ _)⟩

abbrev Birth := List AV × (Nat → AV)
def Birth.at (b : Birth) (H : Heap) : AV × Heap := (b.2 H.length, H ++ [.blk b.1 b.1.length false])
def bNew (cells : List AV) : Birth := (cells, fun b => .ptr b 0 cells.length)

theorem bNew_ok (h : Rel base w0 φ H w) {t : TypeId} {cells : List AV} {cs : Array Value} (hv : VRs φ cells cs.toList) {v' : Value} (hc : v'.cells = cs) :
    Born base w0 P φ H w (do pure (.pointer (some (← newVar t v')))) (bNew cells).1 (bNew cells).2 := by
  have hl := hv.length
  refine born h cs t (by simp at hl; simp [bNew]; omega) (fun i x hx => by simpa using hv.get i x hx) (v := .pointer (some ⟨w.heap.size, 0, none⟩)) (by simp [newVar, newRow, hc]) fun b φ' e => ?_
  exact .ptr (o := 0) (off := 0) e

def bBox (v : AV) : Option Birth := match v with | .unk => none | v => some (bNew v.cells)
theorem bBox_ok (h : Rel base w0 φ H w) {t : TypeId} {x : AV} {x' : Value} {r : Birth} (hx : VR φ x x') (hs : bBox x = some r) : Born base w0 P φ H w (Instr.box t x') r.1 r.2 := by
  have hne : x ≠ .unk := fun e => by subst e; simp [bBox] at hs
  have hs' : some (bNew x.cells) = some r := by rw [← hs]; cases x <;> first | rfl | exact absurd rfl hne
  injection hs' with hs'
  have := bNew_ok (P := P) (t := t) h (hx.cells hne) (v' := x') rfl
  rw [hs'] at this
  exact this

def bAlloc (P : Program) (t : TypeId) : Option Birth :=
  match (P.info? t).bind (·.zero) with
  | some z => match ofV 4 z with | .unk => none | v => some (bNew v.cells)
  | none => none
theorem bAlloc_ok (h : Rel base w0 φ H w) {t : TypeId} {r : Birth} (hs : bAlloc P t = some r) (old : Value) : Born base w0 P φ H w (Instr.alloc t true old) r.1 r.2 := by
  unfold bAlloc at hs
  split at hs
  · rename_i z hz
    obtain ⟨i, hi, hz⟩ := Option.bind_eq_some_iff.1 hz
    have hr := ofV_ok φ 4 z
    have key : ∀ v : AV, v ≠ .unk → VR φ v z → some (bNew v.cells) = some r → Born base w0 P φ H w (Instr.alloc t true old) r.1 r.2 := fun v hne hv he => by
      injection he with he
      have := bNew_ok (P := P) (t := t) h (hv.cells hne) (v' := z) rfl
      rw [he] at this
      intro b H2 g1 g2 g3 g4
      obtain ⟨v1, w1, φ1, e1, e2⟩ := this b H2 g1 g2 g3 g4
      refine ⟨v1, w1, φ1, ?_, e2⟩
      rw [← e1]
      simp [Instr.alloc, run_zeroValue hi hz]
    split at hs
    · cases hs
    · rename_i v hne
      exact key _ (fun e => hne e) hr hs
  · cases hs
end
end Go.Ab
