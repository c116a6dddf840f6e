/- Calls that look at blocks and keep nothing of them; elements of slices that stay as they are. -/
import Derived.Test.YtaljgjnnpallpaaGreatA14
set_option linter.unusedVariables false
set_option linter.unusedSimpArgs false
namespace Go.Ab
open Go.RowKit

mutual
/-- No memory is looked at at all. -/
def _root_.Go.Ab.AV.flatB : AV → Bool
  | .ptr _ _ _ => false
  | .slice _ _ _ _ _ _ => false
  | .vals _ _ _ => false
  | .cptr _ => false
  | .func _ a b => flatBs a && flatBs b
  | .iface _ v => v.flatB
  | .agg cs => flatBs cs
  | .tuple cs => flatBs cs
  | _ => true
def flatBs : List AV → Bool
  | [] => true
  | x :: xs => x.flatB && flatBs xs
end
mutual
theorem VR.flat {φ φ' : Phi} : ∀ {x : AV} {y : Value}, VR φ x y → x.flatB = true → VR φ' x y
  | _, _, .unk v, _ => .unk v
  | _, _, .bool b, _ => .bool b
  | _, _, .int k n, _ => .int k n
  | _, _, .str s, _ => .str s
  | _, _, .nilPtr, _ => .nilPtr
  | _, _, .ptr h, e => by simp [AV.flatB] at e
  | _, _, .nilSlice, _ => .nilSlice
  | _, _, .slice h hl hc hS ha, e => by simp [AV.flatB] at e
  | _, _, .slice0 hz, e => by simp [AV.flatB] at e
  | _, _, .vals hk h hl hC ha, e => by simp [AV.flatB] at e
  | _, _, .cptr hk h, e => by simp [AV.flatB] at e
  | _, _, .func h1 h2, e => by
    simp only [AV.flatB, Bool.and_eq_true] at e
    exact .func (VRs.flat h1 e.1) (VRs.flat h2 e.2)
  | _, _, .nilFunc, _ => .nilFunc
  | _, _, .yld l, _ => .yld l
  | _, _, .iface h, e => .iface (VR.flat h (by simpa [AV.flatB] using e))
  | _, _, .nilIface, _ => .nilIface
  | _, _, .agg h, e => .agg (VRs.flat h (by simpa [AV.flatB] using e))
  | _, _, .tuple h, e => .tuple (VRs.flat h (by simpa [AV.flatB] using e))
theorem VRs.flat {φ φ' : Phi} : ∀ {xs : List AV} {ys : List Value}, VRs φ xs ys → flatBs xs = true → VRs φ' xs ys
  | _, _, .nil, _ => .nil
  | _, _, .cons h t, e => by
    simp only [flatBs, Bool.and_eq_true] at e
    exact .cons (VR.flat h e.1) (VRs.flat t e.2)
end

/-- The blocks are lent for the call. -/
theorem PureCall.borrow {P : Program} {f : FuncId} {as : List AV} {r : AV} {H : Heap} {k : Nat} (h : PureCall P f (as.map (pv 0 H k)) r) (hr : r.flatB = true) : SoundCall P f as H r H := by
  intro base w0 φ w args' hrel hargs
  have hp : VRs (lowPhi φ H w 0).pure (as.map (pv 0 H k)) args'.toList := hargs.map_to _ (pv_ok hrel 0 k)
  have h0 : Rel w.heap.size w (lowPhi φ H w 0).pure [] w := ⟨.refl _ _, Nat.le_refl _, fun _ _ _ e => (by cases e), fun _ _ _ _ _ e => (by cases e), fun _ _ _ _ e => (by simp at e), (hrel.lower 0 k).know, fun _ _ _ => rfl, fun _ e => (by cases e), fun _ _ _ e => (by simp at e)⟩
  refine Calls.mono (h w.heap.size w _ w args' h0 hp) fun e w' hpost => ?_
  obtain ⟨v, φ1, rfl, hext, _, hrel1, hv⟩ := hpost
  exact ⟨v, φ, rfl, Ext.refl _ _ _, Nat.le_refl _, hrel.later hrel1.below.bel, hv.flat hr⟩

theorem PureCall.weak {P : Program} {f : FuncId} {as as' : List AV} {r r' : AV} (h : PureCall P f as' r) (ha : WeakL as as') (hr : Weak r r') : PureCall P f as r' := fun base w0 φ w args' hrel hargs =>
  Calls.mono (h base w0 φ w args' hrel (ha.ok hargs)) fun e w' ⟨v, φ', e1, e2, e3, e4, e5⟩ => ⟨v, φ', e1, e2, e3, e4, hr _ _ e5⟩

/-- Nil or not. -/
theorem VR.nn {φ : Phi} {sz : Nat} {xs : List AV} {v : Value} (h : VR φ (.vals sz xs false) v) : VR φ (.vals sz xs true) v ∨ (xs = [] ∧ VR φ .nilSlice v) := by
  cases h with
  | vals hk h hl hC ha =>
    rename_i A
    rcases ha with rfl | ⟨h0, ha⟩
    · exact .inl (.vals hk h hl hC (.inl rfl))
    · cases A with
      | some a => exact .inl (.vals hk h hl hC (.inr ⟨h0, fun e => by cases e⟩))
      | none =>
        obtain ⟨_, rfl⟩ := ha rfl
        subst h0
        exact .inr ⟨List.eq_nil_of_length_eq_zero (by simpa using hl), .nilSlice⟩
theorem VRs.split {φ : Phi} : ∀ {as bs : List AV} {ys : List Value}, VRs φ (as ++ bs) ys → ∃ ys1 ys2, ys = ys1 ++ ys2 ∧ VRs φ as ys1 ∧ VRs φ bs ys2
  | [], _, ys, h => ⟨[], ys, rfl, .nil, h⟩
  | _ :: as, bs, _, .cons h t => let ⟨y1, y2, e, h1, h2⟩ := VRs.split (as := as) t; ⟨_ :: y1, y2, by rw [e]; rfl, .cons h h1, h2⟩
theorem PureCall.nn {P : Program} {f : FuncId} (as bs : List AV) {sz : Nat} {xs : List AV} {r : AV} (h1 : PureCall P f (as ++ .vals sz xs true :: bs) r) (h2 : xs = [] → PureCall P f (as ++ .nilSlice :: bs) r) : PureCall P f (as ++ .vals sz xs false :: bs) r := by
  intro base w0 φ w args' hrel hargs
  obtain ⟨ys1, ys2, e, g1, g2⟩ := hargs.split
  cases g2 with
  | cons hv ht =>
    rcases hv.nn with hv | ⟨hx, hv⟩
    · exact h1 base w0 φ w args' hrel (by rw [e]; exact g1.append (.cons hv ht))
    · exact h2 hx base w0 φ w args' hrel (by rw [e]; exact g1.append (.cons hv ht))

section
variable {P : Program} {rest : List Item} {n : Nat} {l : List (Nat × AV)} {H : Heap} {K : List AV → Heap → Prop} {dst : Option Tmp} {ty : TypeId} {pos : String} {after : Array Edge} {g : Option Tmp}
theorem WP_lend {f : Operand} {args : Array Operand} {tys : Array TypeId} {r : AV} {fi : FuncId} {as as' : List AV} (hc : PureCall P fi as' r) (hf : enters P fi = true) (ht : aTarget (E n l) ⟨.value f, args, tys⟩ = some (fi, as)) (ha : as.map (pv 0 H 6) = as') (hr : r.flatB = true) (h : WP P rest (putA (E n l) dst r) H K) :
    WP P (⟨⟨dst, .call ⟨.value f, args, tys⟩, ty, pos, after, none⟩, .s, g⟩ :: rest) (E n l) H K := ⟨r, H, .of_call rfl ht hf (PureCall.borrow (k := 6) (by rw [ha]; exact hc) hr), Nat.le_refl _, h⟩
end

@[go_sem] theorem pv_ptr {n k b off v : Nat} {H : Heap} : pv n H (k + 1) (.ptr b off v) = if b < n then .unk else match H[b]? with
      | some (.blk cells mv false) => if mv ≤ v then .cptr (((cells.take v).drop off).map (pv n H k)) else .unk
      | _ => .unk := (rfl)
@[go_sem] theorem pv_slice {n k sz b off len v : Nat} {cap : Option Nat} {H : Heap} : pv n H (k + 1) (.slice sz b off len v cap) = if len = 0 then .vals sz [] (decide (0 < v) || cap.isSome) else if b < n then .unk else match H[b]? with
      | some (.blk cells mv false) => if mv ≤ v ∧ off + len * sz ≤ v then .vals sz (((cells.drop off).take (len * sz)).map (pv n H k)) true else .unk
      | _ => .unk := (rfl)
@[go_sem] theorem cv_ptr {n k b off v : Nat} {H : Heap} : cv n H (k + 1) (.ptr b off v) = if b < n then .ptr b off v else pv n H (k + 1) (.ptr b off v) := (rfl)
@[go_sem] theorem cv_slice {n k sz b off len v : Nat} {cap : Option Nat} {H : Heap} : cv n H (k + 1) (.slice sz b off len v cap) = if b < n then .slice sz b off len v cap else pv n H (k + 1) (.slice sz b off len v cap) := (rfl)

def notPtr : TypeDesc → Bool | .pointer _ => false | _ => true
/-- A method with a receiver by value, of the interface's own value. -/
theorem methodTo_val {P : Program} {t : TypeId} {i : TypeInfo} {m : Method} {d : TypeDesc} {name : String} {f : FuncId} (v : AV) (hi : P.info? t = some i) (hm : i.methods.find? (·.name == name) = some m) (hp : m.path = #[]) (hf : m.func = some (f, false)) (hd : P.underlying t = some d) (hn : notPtr d = true) : MethodTo P t v name f v := by
  intro φ w v' hv
  refine ⟨v', hv, ?_⟩
  obtain ⟨fuel, hfu⟩ : ∃ k, P.types.size + Made.depth = k + 1 := ⟨P.types.size + Made.depth - 1, by
    have : 0 < Made.depth := by decide
    omega⟩
  rw [hfu]
  unfold method
  simp only [Sem.run_bind, run_typeInfo hi, Result.andThen_ok, hm, hp, follow, Sem.run_pure, hf, receiverAt, run_under hd]
  cases d <;> first
    | (simp [notPtr] at hn; done)
    | (simp only [Place.get, Sem.run_pure, Result.andThen_ok])
section
variable {P : Program} {rest : List Item} {n : Nat} {l : List (Nat × AV)} {H : Heap} {K : List AV → Heap → Prop} {dst : Option Tmp} {ty : TypeId} {pos : String} {after : Array Edge} {g : Option Tmp}
theorem WP_invoke {x : Operand} {name : String} {args : Array Operand} {tys : Array TypeId} {r v recv : AV} {t : TypeId} {fi : FuncId} {as : List AV} (hc : PureCall P fi (recv :: as) r) (hf : enters P fi = true) (hm : MethodTo P t v name fi recv) (hx : look (E n l) x = .iface t v) (ha : args.toList.map (look (E n l)) = as) (hp : pureBs (recv :: as) = true) (hr : r.pureB = true) (h : WP P rest (putA (E n l) dst r) H K) :
    WP P (⟨⟨dst, .call ⟨.invoke x name, args, tys⟩, ty, pos, after, none⟩, .s, g⟩ :: rest) (E n l) H K := by
  subst ha
  exact ⟨r, H, .of_invoke rfl rfl hx hm hf (hc.sound hp hr H), Nat.le_refl _, h⟩
end

/-- A nil slice, told as one that is still to be made. -/
theorem Le.slice0 {n0 : N0} {n : Nat} {l : List (Nat × AV)} {H : Heap} {d : Nat} (sz : Nat) (h : lookE l d = .nilSlice) : Le n0 (E n l) H (E n ((d, .slice sz H.length 0 0 0 none) :: l)) (H ++ [.blk [] 0 false]) := by
  intro base w0 φ0 a w φ s
  have hsub : Sub φ ⟨φ.m, φ.K, fun b => if b = H.length then false else φ.Z b⟩ := ⟨fun _ _ _ e => e, fun _ _ _ e => e, fun b e => by show (if b = H.length then false else φ.Z b) = false; rw [e]; simp⟩
  have hz : φ.Z H.length = true := s.rel.fresh (Nat.le_refl _)
  refine ⟨⟨φ.m, φ.K, fun b => if b = H.length then false else φ.Z b⟩, ?_, ?_, s.ext.trans ⟨hsub, fun b hb e => (if_neg (show ¬ b = H.length by have := s.le; omega)).trans e, fun _ _ _ _ e => e⟩ (Nat.le_refl _), by have := s.le; simp; omega, s.dom0, s.domZ⟩
  · have r := s.rel.sleep [.blk [] 0 false]
    refine ⟨r.below, r.size, r.dom, r.lt, fun b cells mv ro hb v B o S hφ => ?_, r.know, fun b v e => ?_, fun b e => ?_, r.inj⟩
    · have k := r.blk b cells mv ro hb v B o S hφ
      exact ⟨k.ver, k.min, k.room, k.lies, fun hm i x hi hx => let ⟨y, h1, h2⟩ := k.reads hm i x hi hx; ⟨y, h1, h2.mono hsub⟩, k.own, k.free⟩
    · have e' : (if b = H.length then false else φ.Z b) = true := e
      split at e'
      · cases e'
      · exact r.zz b v e'
    · have e' : (if b = H.length then false else φ.Z b) = false := e
      split at e'
      · simp; omega
      · exact r.zdom b e'
  · refine VRs.of_get _ _ (by rw [E_length]; have := VRs.length s.tr; rw [E_length] at this; exact this) fun i x hx => ?_
    rw [E_get] at hx
    split at hx
    · rename_i hi
      injection hx with hx
      obtain ⟨y, h1, h2⟩ := VRs.get s.tr i (lookE l i) (by rw [E_get, if_pos hi])
      refine ⟨y, h1, ?_⟩
      rw [lookE_cons] at hx
      split at hx
      · rename_i e
        subst e
        rw [h] at h2
        subst hx
        cases h2
        exact .slice0 (if_pos rfl)
      · rw [← hx]; exact h2.mono hsub
    · cases hx

def lowE (nb : Nat) (H : Heap) (l : List (Nat × AV)) : List (Nat × AV) := l.map fun p => (p.1, cv nb H 6 p.2)
theorem lookE_low (nb : Nat) (H : Heap) (i : Nat) : ∀ l : List (Nat × AV), lookE (lowE nb H l) i = cv nb H 6 (lookE l i)
  | [] => rfl
  | (d, v) :: l => by
    have ih := lookE_low nb H i l
    unfold lowE at ih ⊢
    simp only [List.map_cons, lookE_cons, ih]
    split <;> rfl
theorem E_low (nb n : Nat) (H : Heap) (l : List (Nat × AV)) : (E n l).map (cv nb H 6) = E n (lowE nb H l) := by
  apply List.ext_getElem?
  intro i
  rw [List.getElem?_map, E_get, E_get, lookE_low]
  split <;> rfl
/-- The blocks from nb on are given up. -/
theorem Le.lowerE {n0 : N0} {n : Nat} {l : List (Nat × AV)} {H : Heap} (nb : Nat) (hn : n0.n ≤ nb) (hl : nb ≤ H.length) : Le n0 (E n l) H (E n (lowE nb H l)) (Go.Ab.lower nb 6 H) := by
  rw [← E_low]; exact Le.lower nb 6 hn hl
/-- A loop whose rounds leave blocks behind. -/
theorem W.loopEL {P : Program} {n0 : N0} {n : Nat} {l : List (Nat × AV)} {H : Heap} {Q : Ex → List AV → Heap → Prop} {c : Code} (keep : List Nat) (nb : Nat) (hn : n0.n ≤ nb) (I : Nat → List (Nat × AV) → Heap → Prop) (h0 : ∃ m, I m (keepE keep l) H)
    (round : ∀ m l H, I m l H → W P n0 c (E n l) H (thenA (fun ts' H' => ∃ l' m', ts' = E n l' ∧ m' < m ∧ nb ≤ H'.length ∧ I m' (lowE nb H' (keepE keep l')) (lower nb 6 H')) Q)) : W P n0 (.loop c) (E n l) H Q :=
  W.loop (fun m ts H => ∃ l, ts = E n l ∧ I m l H) (let ⟨m, h⟩ := h0; ⟨m, _, _, Le.keep keep, _, rfl, h⟩) fun m ts H ⟨l, hl, h⟩ => by
    subst hl
    refine (round m l H h).weaken fun e ts' H' q => ?_
    cases e with
    | normal => obtain ⟨l', m', h1, h2, h3, h4⟩ := q; subst h1; exact ⟨m', _, _, h2, (Le.keep keep).trans (Le.lowerE nb hn h3), _, rfl, h4⟩
    | exit id => exact q
    | ret => exact q
theorem cv_map_int {nb k : Nat} {H : Heap} (kd : IntKind) (xs : List Int) : (xs.map (AV.int kd)).map (cv nb H (k + 1)) = xs.map (AV.int kd) := by rw [List.map_map]; rfl
attribute [go_sem] lowE cvO lower cv_map_int

/-! ### elements -/
@[go_sem] theorem natCast_nonneg (n : Nat) : (0 ≤ (n : Int)) = True := eq_true (Int.natCast_nonneg n)
attribute [go_sem] Int.toNat_natCast List.length_map Nat.div_one Nat.mul_one
theorem load_at {P : Program} {t : TypeId} {d : TypeDesc} {i : TypeInfo} {H : Heap} {α : Type} {f : α → AV} {xs : List α} {j : Nat} {x : α} (hd : P.underlying t = some d) (hi : P.info? t = some i) (hg : isAggD d = false) (h : xs[j]? = some x) : aLoad P t (.cptr ((xs.map f).drop j)) H = some (f x) := by
  have : ((xs.map f).drop j)[0]? = some (f x) := by simp [h]
  simp only [aLoad, hd, hi, hg]
  exact this
theorem at0 {α : Type} {xs : List α} {j : Nat} {x : α} (h : xs[j]? = some x) (f : α → AV) : (List.drop j (List.map f xs))[0]? = some (f x) := by simp [h]
end Go.Ab
