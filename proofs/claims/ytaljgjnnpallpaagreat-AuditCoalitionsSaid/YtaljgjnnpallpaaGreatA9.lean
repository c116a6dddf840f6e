/- Blocks are given up: what still looks at them holds their cells, that stay as they are from there on; and what is said of a function's call. -/
import Derived.Test.YtaljgjnnpallpaaGreatA8
set_option linter.unusedVariables false
set_option linter.unusedSimpArgs false
namespace Go.Ab
open Go.RowKit

mutual
/-- No block is looked at. -/
def _root_.Go.Ab.AV.pureB : AV → Bool
  | .ptr _ _ _ => false
  | .slice _ _ _ _ _ _ => false
  | .func _ a b => pureBs a && pureBs b
  | .iface _ v => v.pureB
  | .agg cs => pureBs cs
  | .tuple cs => pureBs cs
  | _ => true
def pureBs : List AV → Bool
  | [] => true
  | x :: xs => x.pureB && pureBs xs
end

mutual
theorem VR.toPure {φ : Phi} : ∀ {x : AV} {y : Value}, VR φ x y → x.pureB = true → VR φ.pure x y
  | _, _, .unk v, _ => .unk v
  | _, _, .bool b, _ => .bool b
  | _, _, .int k n, _ => .int k n
  | _, _, .str s, _ => .str s
  | _, _, .nilPtr, _ => .nilPtr
  | _, _, .ptr h, e => by simp [AV.pureB] at e
  | _, _, .nilSlice, _ => .nilSlice
  | _, _, .slice h hl hc hS ha, e => by simp [AV.pureB] at e
  | _, _, .slice0 hz, e => by simp [AV.pureB] at e
  | _, _, .vals hk h hl hC ha, _ => .vals hk h hl hC ha
  | _, _, .cptr hk h, _ => .cptr hk h
  | _, _, .func h1 h2, e => by
    simp only [AV.pureB, Bool.and_eq_true] at e
    exact .func (VRs.toPure h1 e.1) (VRs.toPure h2 e.2)
  | _, _, .nilFunc, _ => .nilFunc
  | _, _, .yld l, _ => .yld l
  | _, _, .iface h, e => .iface (VR.toPure h (by simpa [AV.pureB] using e))
  | _, _, .nilIface, _ => .nilIface
  | _, _, .agg h, e => .agg (VRs.toPure h (by simpa [AV.pureB] using e))
  | _, _, .tuple h, e => .tuple (VRs.toPure h (by simpa [AV.pureB] using e))
theorem VRs.toPure {φ : Phi} : ∀ {xs : List AV} {ys : List Value}, VRs φ xs ys → pureBs xs = true → VRs φ.pure xs ys
  | _, _, .nil, _ => .nil
  | _, _, .cons h t, e => by
    simp only [pureBs, Bool.and_eq_true] at e
    exact .cons (VR.toPure h e.1) (VRs.toPure t e.2)
end

/-- A value, told without the blocks: those from n on are read, the others aren't known. -/
def pv (n : Nat) (H : Heap) : Nat → AV → AV
  | 0, _ => .unk
  | k + 1, x => match x with
    | .ptr b off v => if b < n then .unk else match H[b]? with
      | some (.blk cells mv false) => if mv ≤ v then .cptr (((cells.take v).drop off).map (pv n H k)) else .unk
      | _ => .unk
    | .slice sz b off len v cap => if len = 0 then .vals sz [] (decide (0 < v) || cap.isSome) else if b < n then .unk else match H[b]? with
      | some (.blk cells mv false) => if mv ≤ v ∧ off + len * sz ≤ v then .vals sz (((cells.drop off).take (len * sz)).map (pv n H k)) true else .unk
      | _ => .unk
    | .func f a b => if (pureBs a && pureBs b) = true then .func f a b else .func f (a.map (pv n H k)) (b.map (pv n H k))
    | .iface t v => .iface t (pv n H k v)
    | .agg cs => .agg (cs.map (pv n H k))
    | .tuple cs => .tuple (cs.map (pv n H k))
    | x => x

/-- A value, told without the blocks from n on. -/
def cv (n : Nat) (H : Heap) : Nat → AV → AV
  | 0, _ => .unk
  | k + 1, x => match x with
    | .ptr b off v => if b < n then .ptr b off v else pv n H (k + 1) (.ptr b off v)
    | .slice sz b off len v cap => if b < n then .slice sz b off len v cap else pv n H (k + 1) (.slice sz b off len v cap)
    | .func f a b => if (pureBs a && pureBs b) = true then .func f a b else .func f (a.map (cv n H k)) (b.map (cv n H k))
    | .iface t v => .iface t (cv n H k v)
    | .agg cs => .agg (cs.map (cv n H k))
    | .tuple cs => .tuple (cs.map (cv n H k))
    | x => x

def cvO (n k : Nat) (H : Heap) : AObj → AObj
  | .blk cells mv ro => .blk (cells.map (cv n H k)) mv ro
  | .gone => .gone
def lower (n k : Nat) (H : Heap) : Heap := (H.take n).map (cvO n k H)

theorem VRs.map_to {φ φ' : Phi} (f : AV → AV) (h : ∀ x y, VR φ x y → VR φ' (f x) y) : ∀ {xs : List AV} {ys : List Value}, VRs φ xs ys → VRs φ' (xs.map f) ys
  | _, _, .nil => .nil
  | _, _, .cons a t => .cons (h _ _ a) (VRs.map_to f h t)

section
variable {base : Nat} {w0 : World} {P : Program} {φ : Phi} {H : Heap} {w : World}

open Classical in
noncomputable def lowK (φ : Phi) (H : Heap) (w : World) (n : Nat) : Nat → Nat → Option Value := fun B i =>
  if ∃ b v o S cells mv, n ≤ b ∧ φ b v = some (B, o, S) ∧ H[b]? = some (.blk cells mv false) then w.cell? ⟨B, i, none⟩ else φ.K B i
noncomputable def lowPhi (φ : Phi) (H : Heap) (w : World) (n : Nat) : Phi := ⟨fun b v => if b < n then φ b v else none, lowK φ H w n, fun b => φ.Z b || decide (n ≤ b)⟩

theorem lowK_sub (h : Rel base w0 φ H w) (n : Nat) : ∀ B i v, φ.K B i = some v → (lowPhi φ H w n).K B i = some v := by
  intro B i v hv
  show lowK φ H w n B i = some v
  unfold lowK
  split
  · exact h.know _ _ _ hv
  · exact hv

/-- The cells of a version that may be read. -/
theorem Rel.cellList (h : Rel base w0 φ H w) {b : Nat} {cells : List AV} {mv : Nat} {ro : Bool} (hb : H[b]? = some (.blk cells mv ro)) {v B o S : Nat} (hφ : φ b v = some (B, o, S)) (hm : mv ≤ v) :
    ∀ n, n ≤ v → ∃ ys : List Value, VRs φ (cells.take n) ys ∧ ∀ (i : Nat) (y : Value), ys[i]? = some y → w.cell? ⟨B, o + i, none⟩ = some y
  | 0, _ => ⟨[], by simpa using VRs.nil, fun i y h => by simp at h⟩
  | n + 1, hn => by
    have k := h.blk b cells mv ro hb v B o S hφ
    obtain ⟨ys, h1, h2⟩ := Rel.cellList h hb hφ hm n (by omega)
    have hlt : n < cells.length := by have := k.ver; omega
    obtain ⟨y, e1, e2⟩ := k.reads hm n _ (by omega) (List.getElem?_eq_getElem hlt)
    have hl := h1.length
    have hl2 : ys.length = n := by simp at hl; omega
    refine ⟨ys ++ [y], ?_, fun i z hz => ?_⟩
    · rw [List.take_add_one, List.getElem?_eq_getElem hlt]
      exact h1.append (.cons e2 .nil)
    · by_cases hi : i < ys.length
      · rw [List.getElem?_append_left hi] at hz; exact h2 i z hz
      · rw [List.getElem?_append_right (by omega)] at hz
        have : i - ys.length = 0 := by
          have := (List.getElem?_eq_some_iff.1 hz).1
          simp at this; omega
        rw [this] at hz
        simp at hz; subst hz
        rw [show i = n by omega]; exact e1

theorem pv_ok (h : Rel base w0 φ H w) (n : Nat) : ∀ (k : Nat) (x : AV) (y : Value), VR φ x y → VR (lowPhi φ H w n).pure (pv n H k x) y
  | 0, _, y, _ => .unk y
  | k + 1, x, y, hx => by
    have hK : ∀ {b v B o S i : Nat} {cells : List AV} {mv : Nat} {z : Value}, ¬ b < n → φ b v = some (B, o, S) → H[b]? = some (.blk cells mv false) → w.cell? ⟨B, i, none⟩ = some z → (lowPhi φ H w n).pure.K B i = some z := by
      intro b v B o S i cells mv z hb hφ hH hc
      show lowK φ H w n B i = some z
      unfold lowK
      rw [if_pos ⟨b, v, o, S, cells, mv, by omega, hφ, hH⟩]
      exact hc
    have hsub : Sub φ.pure (lowPhi φ H w n).pure := ⟨fun _ _ _ e => (by cases e), lowK_sub h n, fun _ e => (by cases e)⟩
    unfold pv
    split
    · rename_i b off v
      split
      · exact .unk _
      · rename_i hb
        split
        · rename_i cells mv hH
          split
          · rename_i hm
            cases hx with
            | ptr hφ =>
              rename_i B o S
              obtain ⟨ys, h1, h2⟩ := h.cellList hH hφ hm v (Nat.le_refl _)
              exact .cptr (ys := ys.drop off) (fun i y e => by
                rw [List.getElem?_drop] at e
                rw [Nat.add_assoc]
                exact hK hb hφ hH (h2 _ _ e)) ((h1.drop off).map_to _ (pv_ok h n k))
          · exact .unk _
        · exact .unk _
    · rename_i sz b off len v cap
      split
      · rename_i h0
        subst h0
        cases hx with
        | slice hφ hl hc hS ha =>
          refine .vals (B := 0) (o := 0) (ys := []) (fun i y e => by simp at e) .nil (by simp) (Nat.zero_le _) (.inr ⟨rfl, fun hA => ?_⟩)
          rcases ha with rfl | ⟨_, a, rfl⟩ <;> cases hA
        | slice0 hz => exact .vals (B := 0) (o := 0) (ys := []) (fun i y e => by simp at e) .nil (by simp) (Nat.zero_le _) (.inr ⟨rfl, fun hA => ⟨rfl, rfl⟩⟩)
      · rename_i h0
        split
        · exact .unk _
        · rename_i hb
          split
          · rename_i cells mv hH
            split
            · rename_i hm
              cases hx with
              | slice hφ hl hc hS ha =>
                rename_i B o S C A
                obtain ⟨ys, h1, h2⟩ := h.cellList hH hφ hm.1 v (Nat.le_refl _)
                have hlen := h1.length
                have hver := (h.blk b cells mv false hH v B o S hφ).ver
                have e1 : (cells.drop off).take (len * sz) = ((cells.take v).drop off).take (len * sz) := by
                  rw [List.drop_take, List.take_take, Nat.min_eq_left (by omega)]
                rw [e1]
                refine .vals (B := B) (o := o + off) (ys := (ys.drop off).take (len * sz)) (fun i y e => ?_) (((h1.drop off).take _).map_to _ (pv_ok h n k)) (by simp at hlen ⊢; omega) hl ?_
                · have hi : i < len * sz := by
                    have := (List.getElem?_eq_some_iff.1 e).1
                    simp at this; omega
                  rw [List.getElem?_take_of_lt hi, List.getElem?_drop] at e
                  rw [Nat.add_assoc]
                  exact hK hb hφ hH (h2 _ _ e)
                · rcases ha with rfl | ⟨hC, a, rfl⟩
                  · exact .inl rfl
                  · omega
              | slice0 hz => exact absurd rfl h0
            · exact .unk _
          · exact .unk _
    · cases hx with
      | func h1 h2 =>
        split
        · rename_i hp
          simp only [Bool.and_eq_true] at hp
          exact .func ((h1.toPure hp.1).mono hsub) ((h2.toPure hp.2).mono hsub)
        · exact .func (h1.map_to _ (pv_ok h n k)) (h2.map_to _ (pv_ok h n k))
    · cases hx with | iface h1 => exact .iface (pv_ok h n k _ _ h1)
    · cases hx with | agg h1 => exact .agg (h1.map_to _ (pv_ok h n k))
    · cases hx with | tuple h1 => exact .tuple (h1.map_to _ (pv_ok h n k))
    · rename_i h1 h2 h3 h4 h5 h6
      cases hx with
      | unk => exact .unk _
      | bool b => exact .bool b
      | int k n => exact .int k n
      | str s => exact .str s
      | nilPtr => exact .nilPtr
      | ptr hφ => exact absurd rfl (h1 _ _ _)
      | nilSlice => exact .nilSlice
      | slice => exact absurd rfl (h2 _ _ _ _ _ _)
      | slice0 => exact absurd rfl (h2 _ _ _ _ _ _)
      | vals hk hxs hl hC ha => exact .vals (fun i y e => hsub.K _ _ _ (hk i y e)) (hxs.mono hsub) hl hC ha
      | cptr hk hxs => exact .cptr (fun i y e => hsub.K _ _ _ (hk i y e)) (hxs.mono hsub)
      | func => exact absurd rfl (h3 _ _ _)
      | nilFunc => exact .nilFunc
      | yld l => exact .yld l
      | iface => exact absurd rfl (h4 _ _)
      | nilIface => exact .nilIface
      | agg => exact absurd rfl (h5 _)
      | tuple => exact absurd rfl (h6 _)

theorem cv_ok (h : Rel base w0 φ H w) (n : Nat) : ∀ (k : Nat) (x : AV) (y : Value), VR φ x y → VR (lowPhi φ H w n) (cv n H k x) y
  | 0, _, y, _ => .unk y
  | k + 1, x, y, hx => by
    have hp := fun x => (pv_ok h n (k + 1) x y · |>.mono (Phi.pure_sub _))
    have hsub : Sub φ.pure (lowPhi φ H w n).pure := ⟨fun _ _ _ e => (by cases e), lowK_sub h n, fun _ e => (by cases e)⟩
    unfold cv
    split
    · rename_i b off v
      split
      · rename_i hb
        cases hx with
        | ptr hφ => exact .ptr (show (if b < n then φ b v else none) = _ by rw [if_pos hb]; exact hφ)
      · exact hp _ hx
    · rename_i sz b off len v cap
      split
      · rename_i hb
        cases hx with
        | slice hφ hl hc hS ha => exact .slice (show (if b < n then φ b v else none) = _ by rw [if_pos hb]; exact hφ) hl hc hS ha
        | slice0 hz => exact .slice0 (show (φ.Z b || decide (n ≤ b)) = false by rw [hz]; simp; omega)
      · exact hp _ hx
    · cases hx with
      | func h1 h2 =>
        split
        · rename_i hp
          simp only [Bool.and_eq_true] at hp
          exact .func (((h1.toPure hp.1).mono hsub).mono (Phi.pure_sub _)) (((h2.toPure hp.2).mono hsub).mono (Phi.pure_sub _))
        · exact .func (h1.map_to _ (cv_ok h n k)) (h2.map_to _ (cv_ok h n k))
    · cases hx with | iface h1 => exact .iface (cv_ok h n k _ _ h1)
    · cases hx with | agg h1 => exact .agg (h1.map_to _ (cv_ok h n k))
    · cases hx with | tuple h1 => exact .tuple (h1.map_to _ (cv_ok h n k))
    · rename_i h1 h2 h3 h4 h5 h6
      cases hx with
      | unk => exact .unk _
      | bool b => exact .bool b
      | int k n => exact .int k n
      | str s => exact .str s
      | nilPtr => exact .nilPtr
      | ptr hφ => exact absurd rfl (h1 _ _ _)
      | nilSlice => exact .nilSlice
      | slice => exact absurd rfl (h2 _ _ _ _ _ _)
      | slice0 => exact absurd rfl (h2 _ _ _ _ _ _)
      | vals hk hxs hl hC ha => exact .vals (fun i y e => hsub.K _ _ _ (hk i y e)) (hxs.mono hsub) hl hC ha
      | cptr hk hxs => exact .cptr (fun i y e => hsub.K _ _ _ (hk i y e)) (hxs.mono hsub)
      | func => exact absurd rfl (h3 _ _ _)
      | nilFunc => exact .nilFunc
      | yld l => exact .yld l
      | iface => exact absurd rfl (h4 _ _)
      | nilIface => exact .nilIface
      | agg => exact absurd rfl (h5 _)
      | tuple => exact absurd rfl (h6 _)

theorem Rel.lower (h : Rel base w0 φ H w) (n k : Nat) : Rel base w0 (lowPhi φ H w n) (lower n k H) w := by
  have hlen : (Go.Ab.lower n k H).length = min n H.length := by simp [Go.Ab.lower]
  have hget : ∀ b o, (Go.Ab.lower n k H)[b]? = some o → b < n ∧ ∃ o', H[b]? = some o' ∧ o = cvO n k H o' := fun b o e => by
    have hb : b < n := by
      have := (List.getElem?_eq_some_iff.1 e).1
      omega
    unfold Go.Ab.lower at e
    rw [List.getElem?_map, List.getElem?_take_of_lt hb] at e
    obtain ⟨o', e1, e2⟩ := Option.map_eq_some_iff.1 e
    exact ⟨hb, o', e1, e2.symm⟩
  have hblk : ∀ b cells mv ro, (Go.Ab.lower n k H)[b]? = some (.blk cells mv ro) → b < n ∧ ∃ cells', H[b]? = some (.blk cells' mv ro) ∧ cells = cells'.map (cv n H k) := fun b cells mv ro e => by
    obtain ⟨hb, o', e1, e2⟩ := hget b _ e
    cases o' with
    | gone => simp [cvO] at e2
    | blk c m r =>
      simp only [cvO, AObj.blk.injEq] at e2
      obtain ⟨rfl, rfl, rfl⟩ := e2
      exact ⟨hb, c, e1, rfl⟩
  have hm : ∀ b v X, (lowPhi φ H w n) b v = some X → b < n ∧ φ b v = some X := fun b v X e => by
    have e' : (if b < n then φ b v else none) = some X := e
    split at e'
    · exact ⟨‹_›, e'⟩
    · cases e'
  refine ⟨h.below, h.size, fun b v X e => ?_, fun b v B o S e => h.lt b v B o S (hm _ _ _ e).2, fun b cells mv ro e v B o S hφ => ?_, fun B i v e => ?_, fun b v e => ?_, fun b e => ?_, fun b cells mv e b' v v' B o S o' S' hne h1 h2 => ?_⟩
  · obtain ⟨e1, e2⟩ := hm _ _ _ e
    have := h.dom _ _ _ e2
    omega
  · obtain ⟨hb, cells', e1, rfl⟩ := hblk _ _ _ _ e
    have hφ' := (hm _ _ _ hφ).2
    have k' := h.blk b cells' mv ro e1 v B o S hφ'
    refine ⟨by simpa using k'.ver, by simpa using k'.min, k'.room, k'.lies, fun hmv i x hi hx => ?_, k'.own, fun hr i => ?_⟩
    · rw [List.getElem?_map] at hx
      obtain ⟨x', hx1, rfl⟩ := Option.map_eq_some_iff.1 hx
      obtain ⟨y, y1, y2⟩ := k'.reads hmv i x' hi hx1
      exact ⟨y, y1, cv_ok h n k _ _ y2⟩
    · subst hr
      show lowK φ H w n B i = none
      unfold lowK
      rw [if_neg]
      · exact k'.free rfl i
      · rintro ⟨b2, v2, o2, S2, c2, m2, g1, g2, g3⟩
        exact h.inj b cells' mv e1 b2 v v2 B o S o2 S2 (by omega) hφ' g2
  · have e' : lowK φ H w n B i = some v := e
    unfold lowK at e'
    split at e'
    · exact e'
    · exact h.know _ _ _ e'
  · have e' : (φ.Z b || decide (n ≤ b)) = true := e
    simp only [Bool.or_eq_true, decide_eq_true_eq] at e'
    show (if b < n then φ b v else none) = none
    split
    · exact h.zz _ _ (e'.resolve_right (by omega))
    · rfl
  · have e' : (φ.Z b || decide (n ≤ b)) = false := e
    simp only [Bool.or_eq_false_iff, decide_eq_false_iff_not] at e'
    have := h.zdom _ e'.1
    omega
  · obtain ⟨hb, cells', e1, rfl⟩ := hblk _ _ _ _ e
    exact h.inj b cells' mv e1 b' v v' B o S o' S' hne (hm _ _ _ h1).2 (hm _ _ _ h2).2

theorem Ext.lower (h : Rel base w0 φ H w) {n0 n : Nat} {φ0 : Phi} (he : Ext base n0 φ0 φ) (hd : ∀ b v X, φ0 b v = some X → b < n0) (hz : ∀ b, φ0.Z b = false → b < n0) (hn : n0 ≤ n) : Ext base n0 φ0 (lowPhi φ H w n) := by
  refine ⟨⟨fun b v X e => ?_, fun B i v e => lowK_sub h n _ _ _ (he.sub.K _ _ _ e), fun b e => ?_⟩, fun b hb e => ?_, fun B i v hB e => ?_⟩
  · show (if b < n then φ b v else none) = some X
    rw [if_pos (by have := hd _ _ _ e; omega)]
    exact he.sub.m _ _ _ e
  · show (φ.Z b || decide (n ≤ b)) = false
    have := hz _ e
    rw [he.sub.Z _ e]; simp; omega
  · show (φ.Z b || decide (n ≤ b)) = true
    rw [he.stays _ hb e]
    rfl
  · have e' : lowK φ H w n B i = some v := e
    unfold lowK at e'
    split at e'
    · rename_i hx
      obtain ⟨b2, v2, o2, S2, c2, m2, g1, g2, g3⟩ := hx
      have := ((h.blk b2 c2 m2 false g3 v2 B o2 S2 g2).own rfl).1
      omega
    · exact he.knew _ _ _ hB e'
end

/-! ### What a call does -/
def CallPost (base : Nat) (w0 : World) (φ : Phi) (n : Nat) (r : AV) (H' : Heap) : Ending → World → Prop := fun e w' =>
  ∃ v φ', e = .returned v ∧ Ext base n φ φ' ∧ n ≤ H'.length ∧ Rel base w0 φ' H' w' ∧ VR φ' r v
def SoundCall (P : Program) (f : FuncId) (args : List AV) (H : Heap) (r : AV) (H' : Heap) : Prop :=
  ∀ base w0 φ w (args' : Array Value), Rel base w0 φ H w → VRs φ args args'.toList → Calls P f args' w (CallPost base w0 φ H.length r H')

/-- A call that looks at no block, and that leaves none. -/
def PureCall (P : Program) (f : FuncId) (args : List AV) (r : AV) : Prop := SoundCall P f args [] r []

theorem PureCall.sound {P : Program} {f : FuncId} {args : List AV} {r : AV} (h : PureCall P f args r) (ha : pureBs args = true) (hr : r.pureB = true) (H : Heap) : SoundCall P f args H r H := by
  intro base w0 φ w args' hrel hargs
  have h0 : Rel w.heap.size w φ.pure [] w := ⟨.refl _ _, Nat.le_refl _, fun _ _ _ e => (by cases e), fun _ _ _ _ _ e => (by cases e), fun _ _ _ _ e => (by simp at e), hrel.know, fun _ _ _ => rfl, fun _ e => (by cases e), fun _ _ _ e => (by simp at e)⟩
  refine Calls.mono (h w.heap.size w _ w args' h0 (hargs.toPure ha)) fun e w' hp => ?_
  obtain ⟨v, φ1, rfl, hext, _, hrel1, hv⟩ := hp
  have hl := hrel.later hrel1.below.bel
  refine ⟨v, ⟨φ.m, φ1.K, φ.Z⟩, rfl, ⟨⟨fun _ _ _ e => e, hext.sub.K, fun _ e => e⟩, fun _ _ e => e, fun B i u hB e => hext.knew B i u (Nat.lt_of_lt_of_le hB hrel.size) e⟩, Nat.le_refl _, ?_, (hv.toPure hr).mono (show Sub φ1.pure ⟨φ.m, φ1.K, φ.Z⟩ from ⟨fun _ _ _ e => (by cases e), fun _ _ _ e => e, fun _ e => (by cases e)⟩)⟩
  have hsub : Sub φ ⟨φ.m, φ1.K, φ.Z⟩ := ⟨fun _ _ _ e => e, hext.sub.K, fun _ e => e⟩
  refine ⟨hl.below, hl.size, hl.dom, hl.lt, fun b cells mv ro hb v B o S hφ => ?_, hrel1.know, hl.zz, hl.zdom, hl.inj⟩
  have k := hl.blk b cells mv ro hb v B o S hφ
  refine ⟨k.ver, k.min, k.room, k.lies, fun hm i x hi hx => let ⟨y, h1, h2⟩ := k.reads hm i x hi hx; ⟨y, h1, h2.mono hsub⟩, k.own, fun hr i => ?_⟩
  cases he : φ1.K B i with
  | none => rfl
  | some u =>
    have : φ.K B i = some u := hext.knew B i u (hrel.lt _ _ _ _ _ hφ) he
    rw [show φ.K B i = none from k.free hr i] at this
    cases this
end Go.Ab
