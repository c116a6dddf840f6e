/- The operations on the abstract memory, one by one: addresses, slices, numbers, strings, make. -/
import Derived.Test.YtaljgjnnpallpaaGreatA2
import Derived.IntWalk
set_option linter.unusedVariables false
set_option linter.unusedSimpArgs false
namespace Go.Ab
open Go.RowKit

section
variable {base : Nat} {w0 : World} {P : Program} {φ : Phi} {H : Heap} {w : World}

theorem add_addr (B o n : Nat) : (⟨B, o, none⟩ : Addr).add n = ⟨B, o + n, none⟩ := by
  unfold Addr.add
  split
  · rename_i h; subst h; rfl
  · rfl

/-! #### fields -/
def aField (P : Program) (s : TypeId) (p : AV) (i : Nat) : Option AV :=
  match P.underlying s, p with
  | some (.struct fields), .ptr b off ver =>
    match fields[i]? with
    | some f => if hasT P f.type ∧ 0 < sizeT P f.type then some (.ptr b (off + f.offset) ver) else none
    | none => none
  | some (.struct fields), .cptr xs =>
    match fields[i]? with
    | some f => if hasT P f.type ∧ 0 < sizeT P f.type then some (.cptr (xs.drop f.offset)) else none
    | none => none
  | _, _ => none
theorem cptr_drop {φ : Phi} {xs : List AV} {ys : List Value} {B o : Nat} (hk : ∀ (i : Nat) (y : Value), ys[i]? = some y → φ.K B (o + i) = some y) (h : VRs φ.pure xs ys) (n : Nat) : VR φ (.cptr (xs.drop n)) (.pointer (some ⟨B, o + n, none⟩)) :=
  .cptr (ys := ys.drop n) (fun i y e => by rw [List.getElem?_drop] at e; rw [Nat.add_assoc]; exact hk _ _ e) (h.drop n)
theorem aField_ok {s : TypeId} {p r : AV} {p' : Value} {i : Nat} (hp : VR φ p p') (hs : aField P s p i = some r) : ∃ v, (Instr.fieldAt s p' i).run P w = .ok v w ∧ VR φ r v := by
  unfold aField at hs
  split at hs
  · rename_i fields b off ver hd
    split at hs
    · rename_i f hf
      split at hs
      · rename_i hc
        injection hs with hs; subst hs
        cases hp with
        | ptr hφ =>
          rename_i B o S
          refine ⟨.pointer (some ⟨B, o + (off + f.offset), none⟩), ?_, .ptr hφ⟩
          simp only [Instr.fieldAt, Sem.run_bind, run_under hd, Result.andThen_ok, hf, Instr.sureAddr, Sem.run_pure, fieldPlace, run_sizeT hc.1]
          rw [if_neg (by omega)]
          simp only [Sem.run_pure, Result.andThen_ok, add_addr, Nat.add_assoc]
      · cases hs
    · cases hs
  · rename_i fields xs hd
    split at hs
    · rename_i f hf
      split at hs
      · rename_i hc
        injection hs with hs; subst hs
        cases hp with
        | cptr hk hx =>
          rename_i ys B o
          refine ⟨.pointer (some ⟨B, o + f.offset, none⟩), ?_, cptr_drop hk hx _⟩
          simp only [Instr.fieldAt, Sem.run_bind, run_under hd, Result.andThen_ok, hf, Instr.sureAddr, Sem.run_pure, fieldPlace, run_sizeT hc.1]
          rw [if_neg (by omega)]
          simp only [Sem.run_pure, Result.andThen_ok, add_addr, Nat.add_assoc]
      · cases hs
    · cases hs
  · cases hs

def aPart (P : Program) (t : TypeId) (cells : List AV) (off : Nat) : Option AV :=
  match P.underlying t with
  | some d => if isAggD d then (if hasT P t then some (.agg ((cells.drop off).take (sizeT P t))) else none) else cells[off]?
  | none => none
theorem aPart_ok {t : TypeId} {cells : List AV} {cs : Array Value} {off : Nat} {r : AV} (h : VRs φ cells cs.toList) (hs : aPart P t cells off = some r) : ∃ v, (part t cs off).run P w = .ok v w ∧ VR φ r v := by
  unfold aPart at hs
  split at hs
  · rename_i d hd
    split at hs
    · rename_i hg
      split at hs
      · rename_i ht
        injection hs with hs; subst hs
        refine ⟨.agg (cs.extract off (off + sizeT P t)), ?_, .agg ?_⟩
        · simp [part, run_isAgg hd, hg, run_sizeT ht]
        · have := (h.drop off).take (sizeT P t)
          simpa [List.extract_eq_take_drop, Array.toList_extract] using this
      · cases hs
    · rename_i hg
      obtain ⟨y, h1, h2⟩ := h.get off r hs
      simp at h1
      exact ⟨y, by simp [part, run_isAgg hd, hg, h1], h2⟩
  · cases hs

def aFieldV (P : Program) (t : TypeId) (x : AV) (i : Nat) : Option AV :=
  match P.underlying t, x with
  | some (.struct fields), .agg cells =>
    match fields[i]? with
    | some f => aPart P f.type cells f.offset
    | none => none
  | _, _ => none
theorem aFieldV_ok {t : TypeId} {x r : AV} {x' : Value} {i : Nat} (hx : VR φ x x') (hs : aFieldV P t x i = some r) : ∃ v, (Instr.field t x' i).run P w = .ok v w ∧ VR φ r v := by
  unfold aFieldV at hs
  split at hs
  · rename_i fields cells hd
    split at hs
    · rename_i f hf
      cases hx with
      | agg hx =>
        obtain ⟨v, h1, h2⟩ := aPart_ok (P := P) (w := w) hx hs
        exact ⟨v, by simp [Instr.field, run_under hd, hf, asAgg, h1], h2⟩
    · cases hs
  · cases hs

/-! #### indices -/
def aIndexAddr (P : Program) (t : TypeId) (x i : AV) : Option AV :=
  match P.underlying t, x, i with
  | some (.slice e), .slice _ b off len ver _, .int _ n => if 0 ≤ n ∧ n < len ∧ hasT P e then some (.ptr b (off + n.toNat * sizeT P e) ver) else none
  | some (.array len e), .ptr b off ver, .int _ n => if 0 ≤ n ∧ n < len ∧ hasT P e then some (.ptr b (off + n.toNat * sizeT P e) ver) else none
  | some (.slice e), .vals sz xs _, .int _ n => if 0 ≤ n ∧ n.toNat * sz < xs.length ∧ hasT P e ∧ sizeT P e = sz then some (.cptr (xs.drop (n.toNat * sz))) else none
  | some (.array len e), .cptr xs, .int _ n => if 0 ≤ n ∧ n < len ∧ hasT P e then some (.cptr (xs.drop (n.toNat * sizeT P e))) else none
  | _, _, _ => none
theorem aIndexAddr_ok {t : TypeId} {x i r : AV} {x' i' : Value} (hx : VR φ x x') (hi : VR φ i i') (hs : aIndexAddr P t x i = some r) : ∃ v, (Instr.indexAt t x' i').run P w = .ok v w ∧ VR φ r v := by
  unfold aIndexAddr at hs
  split at hs
  · rename_i e sz b off len ver cap k n hd
    split at hs
    · rename_i hc
      injection hs with hs; subst hs
      cases hx with
      | slice hφ hl hcap hS ha =>
        rename_i B o S C A
        cases hi
        rcases ha with rfl | ⟨h0, _⟩
        · refine ⟨.pointer (some ⟨B, o + (off + n.toNat * sizeT P e), none⟩), ?_, .ptr hφ⟩
          simp [Instr.indexAt, asIntOf, run_under hd, hc.1, hc.2.1, run_sizeT hc.2.2, add_addr, Nat.add_assoc]
        · omega
      | slice0 hz => omega
    · cases hs
  · rename_i len e b off ver k n hd
    split at hs
    · rename_i hc
      injection hs with hs; subst hs
      cases hx with
      | ptr hφ =>
        rename_i B o S
        cases hi
        refine ⟨.pointer (some ⟨B, o + (off + n.toNat * sizeT P e), none⟩), ?_, .ptr hφ⟩
        simp [Instr.indexAt, asIntOf, run_under hd, hc.1, hc.2.1, run_sizeT hc.2.2, add_addr, Nat.add_assoc, Instr.sureAddr]
    · cases hs
  · rename_i e sz xs nn k n hd
    split at hs
    · rename_i hc
      obtain ⟨h0, h1, h2, rfl⟩ := hc
      injection hs with hs; subst hs
      cases hx with
      | vals hk hx hl hC ha =>
        rename_i ys B o len C A
        cases hi
        have hlt : n.toNat < len := by
          rw [hl] at h1
          exact Nat.lt_of_mul_lt_mul_right h1
        rcases ha with rfl | ⟨h0, _⟩
        · refine ⟨.pointer (some ⟨B, o + n.toNat * sizeT P e, none⟩), ?_, cptr_drop hk hx _⟩
          have hlt' : n < len := by omega
          simp [Instr.indexAt, asIntOf, run_under hd, h0, hlt', run_sizeT h2, add_addr, Nat.add_assoc]
        · omega
    · cases hs
  · rename_i len e xs k n hd
    split at hs
    · rename_i hc
      injection hs with hs; subst hs
      cases hx with
      | cptr hk hx =>
        rename_i ys B o
        cases hi
        refine ⟨.pointer (some ⟨B, o + n.toNat * sizeT P e, none⟩), ?_, cptr_drop hk hx _⟩
        simp [Instr.indexAt, asIntOf, run_under hd, hc.1, hc.2.1, run_sizeT hc.2.2, add_addr, Nat.add_assoc, Instr.sureAddr]
    · cases hs
  · cases hs

def aIndexV (P : Program) (t : TypeId) (x i : AV) : Option AV :=
  match P.underlying t, x, i with
  | some (.array len e), .agg cells, .int _ n => if 0 ≤ n ∧ n < len ∧ hasT P e then aPart P e cells (n.toNat * sizeT P e) else none
  | some .string, .str s, .int _ n => if 0 ≤ n then (s[n.toNat]?).map fun b => .int .u8 b.toNat else none
  | _, _, _ => none
theorem aIndexV_ok {t : TypeId} {x i r : AV} {x' i' : Value} (hx : VR φ x x') (hi : VR φ i i') (hs : aIndexV P t x i = some r) : ∃ v, (Instr.index t x' i').run P w = .ok v w ∧ VR φ r v := by
  unfold aIndexV at hs
  split at hs
  · rename_i len e cells k n hd
    split at hs
    · rename_i hc
      cases hx with
      | agg hx =>
        cases hi
        obtain ⟨v, h1, h2⟩ := aPart_ok (P := P) (w := w) hx hs
        exact ⟨v, by simp [Instr.index, asIntOf, run_under hd, hc.1, hc.2.1, run_sizeT hc.2.2, h1], h2⟩
    · cases hs
  · rename_i s k n hd
    split at hs
    · rename_i hc
      obtain ⟨b, hb, rfl⟩ := Option.map_eq_some_iff.1 hs
      cases hx; cases hi
      exact ⟨.int .u8 b.toNat, by simp [Instr.index, asIntOf, run_under hd, hc, hb], .int _ _⟩
    · cases hs
  · cases hs

/-! #### cuts -/
def aLo : Option AV → Option Nat
  | none => some 0
  | some (.int _ n) => if 0 ≤ n then some n.toNat else none
  | some _ => none
def aHi (n : Nat) : Option AV → Option Nat
  | none => some n
  | some h => aLo (some h)
/-- 'x[lo:hi:mx]'. Where the capacity isn't known it is at least the length. -/
def aSlice (P : Program) (t : TypeId) (x : AV) (lo hi mx : Option AV) : Option AV :=
  match P.underlying t, x, mx with
  | some .string, .str s, none =>
    match aLo lo, aHi (s.size) hi with
    | some l, some h => if l ≤ h ∧ h ≤ s.size then some (.str (s.extract l h)) else none
    | _, _ => none
  | some (.slice e), .slice sz b off len ver cap, none =>
    match aLo lo, aHi (len) hi with
    | some l, some h => if hasT P e ∧ sizeT P e = sz ∧ l ≤ h ∧ h ≤ cap.getD len ∧ (0 < ver ∨ cap.isSome = true) then some (.slice sz b (off + l * sz) (h - l) ver (cap.map (· - l))) else none
    | _, _ => none
  | some (.slice e), .slice sz b off len ver cap, some m =>
    match aLo lo, hi.bind (fun h => aLo (some h)), aLo (some m) with
    | some l, some h, some m => if hasT P e ∧ sizeT P e = sz ∧ l ≤ h ∧ h ≤ m ∧ m ≤ cap.getD len ∧ (0 < ver ∨ cap.isSome = true) then some (.slice sz b (off + l * sz) (h - l) ver (some (m - l))) else none
    | _, _, _ => none
  | some (.slice e), .nilSlice, none =>
    match aLo lo, aHi (0) hi with
    | some 0, some 0 => if hasT P e then some .nilSlice else none
    | _, _ => none
  | some (.slice e), .vals sz xs nn, none =>
    match aLo lo, aHi (xs.length / sz) hi with
    | some l, some h => if hasT P e ∧ sizeT P e = sz ∧ 0 < sz ∧ l ≤ h ∧ h * sz ≤ xs.length then some (.vals sz ((xs.drop (l * sz)).take ((h - l) * sz)) nn) else none
    | _, _ => none
  | _, _, _ => none

theorem run_bound {k : IntKind} {n : Int} {y : Nat} (code : BoundsCode) (h0 : 0 ≤ n) (h : n.toNat ≤ y) : (Instr.sliceBound (.int k n) y code).run P w = .ok n.toNat w := by
  have : n ≤ (y : Int) := by omega
  simp [Instr.sliceBound, asIntOf, h0, this]

theorem aLo_some {φ : Phi} {x : AV} {x' : Value} {l : Nat} (h : aLo (some x) = some l) (hx : VR φ x x') : ∃ k n, x' = .int k n ∧ 0 ≤ n ∧ n.toNat = l := by
  cases x <;> simp [aLo] at h
  cases hx
  exact ⟨_, _, rfl, h.1, h.2⟩

inductive OR (φ : Phi) : Option AV → Option Value → Prop
  | none : OR φ none none
  | some {x : AV} {y : Value} (h : VR φ x y) : OR φ (some x) (some y)

theorem run_bounds2 (isSlice : Bool) {len cap l h : Nat} {lo hi : Option AV} {lo' hi' : Option Value} (hlo : OR φ lo lo') (hhi : OR φ hi hi') (h1 : aLo lo = some l) (h2 : aHi (len) hi = some h) (hl : l ≤ h) (hc : h ≤ cap) :
    (Instr.sliceBounds isSlice len cap lo' hi' none).run P w = .ok (l, h, cap) w := by
  cases hlo with
  | none =>
    simp only [aLo, Option.some.injEq] at h1; subst h1
    cases hhi with
    | none =>
      simp only [aHi, Option.some.injEq] at h2; subst h2
      simp [Instr.sliceBounds]
    | some hy =>
      obtain ⟨k, n, rfl, hn, rfl⟩ := aLo_some h2 hy
      simp [Instr.sliceBounds, run_bound _ hn hc]
  | some hx =>
    obtain ⟨k, n, rfl, hn, rfl⟩ := aLo_some h1 hx
    cases hhi with
    | none =>
      simp only [aHi, Option.some.injEq] at h2; subst h2
      simp [Instr.sliceBounds, run_bound _ hn hl]
    | some hy =>
      obtain ⟨k2, n2, rfl, hn2, rfl⟩ := aLo_some h2 hy
      simp [Instr.sliceBounds, run_bound _ hn hl, run_bound _ hn2 hc]

theorem run_bounds3 (isSlice : Bool) {len cap l h m : Nat} {lo hi : Option AV} {mx : AV} {lo' hi' : Option Value} {mx' : Value} (hlo : OR φ lo lo') (hhi : OR φ hi hi') (hmx : VR φ mx mx') (h1 : aLo lo = some l) (h2 : hi.bind (fun h => aLo (some h)) = some h) (h3 : aLo (some mx) = some m) (hl : l ≤ h) (hc : h ≤ m) (hm : m ≤ cap) :
    (Instr.sliceBounds isSlice len cap lo' hi' (some mx')).run P w = .ok (l, h, m) w := by
  obtain ⟨k3, n3, rfl, hn3, rfl⟩ := aLo_some h3 hmx
  cases hhi with
  | none => simp at h2
  | some hy =>
    simp only [Option.bind_some] at h2
    obtain ⟨k2, n2, rfl, hn2, rfl⟩ := aLo_some h2 hy
    cases hlo with
    | none =>
      simp only [aLo, Option.some.injEq] at h1; subst h1
      simp [Instr.sliceBounds, run_bound _ hn2 hc, run_bound _ hn3 hm]
    | some hx =>
      obtain ⟨k, n, rfl, hn, rfl⟩ := aLo_some h1 hx
      simp [Instr.sliceBounds, run_bound _ hn2 hc, run_bound _ hn3 hm, run_bound _ hn hl]

theorem aSlice_ok {t : TypeId} {x r : AV} {x' : Value} {lo hi mx : Option AV} {lo' hi' mx' : Option Value} (hx : VR φ x x') (hlo : OR φ lo lo') (hhi : OR φ hi hi') (hmx : OR φ mx mx') (hs : aSlice P t x lo hi mx = some r) :
    ∃ v, (Instr.sliceAt t x' lo' hi' mx').run P w = .ok v w ∧ VR φ r v := by
  unfold aSlice at hs
  split at hs
  · rename_i s hd
    split at hs
    · rename_i l h e1 e2
      split at hs
      · rename_i hc
        injection hs with hs; subst hs
        cases hx; cases hmx
        refine ⟨.string (s.extract l h), ?_, .str _⟩
        simp [Instr.sliceAt, Instr.slice, run_under hd, run_bounds2 false hlo hhi e1 e2 hc.1 hc.2]
      · cases hs
    · cases hs
  · rename_i e sz b off len ver cap hd
    split at hs
    · rename_i l h e1 e2
      split at hs
      · rename_i hc
        obtain ⟨ht, hsz, hlh, hhc, hv0⟩ := hc
        injection hs with hs; subst hs
        cases hmx
        cases hx with
        | slice hφ hl hcap hS ha =>
          rename_i B o S C A
          have hC : h ≤ C := by
            cases cap with
            | none => simp at hhc; omega
            | some c => simp at hhc; have := hcap c rfl; omega
          refine ⟨.slice (if C = l then A else A.map (·.add (l * sizeT P e))) (h - l) (C - l), ?_, ?_⟩
          · simp [Instr.sliceAt, Instr.slice, run_under hd, run_bounds2 true hlo hhi e1 e2 hlh hC, run_sizeT ht]
          · subst hsz
            refine .slice hφ (by omega) ?_ ?_ ?_
            · intro c hc'
              cases cap with
              | none => simp at hc'
              | some c0 => simp at hc'; have := hcap c0 rfl; omega
            · have : (C - l) * sizeT P e + l * sizeT P e = C * sizeT P e := by rw [← Nat.add_mul]; congr 1; omega
              omega
            · by_cases hCl : C = l
              · rcases ha with rfl | ⟨_, a, rfl⟩
                · exact .inr ⟨by omega, _, by rw [if_pos hCl]⟩
                · exact .inr ⟨by omega, _, by rw [if_pos hCl]⟩
              · rcases ha with rfl | ⟨h0, _⟩
                · left
                  rw [if_neg hCl]
                  simp [add_addr, Nat.add_assoc]
                · omega
        | slice0 hz => simp at hv0
      · cases hs
    · cases hs
  · rename_i e sz b off len ver cap m0 hd
    split at hs
    · rename_i l h m e1 e2 e3
      split at hs
      · rename_i hc
        obtain ⟨ht, hsz, hlh, hhm, hmc, hv0⟩ := hc
        injection hs with hs; subst hs
        cases hmx with
        | some hm0 =>
        cases hx with
        | slice hφ hl hcap hS ha =>
          rename_i B o S C A
          have hC : m ≤ C := by
            cases cap with
            | none => simp at hmc; omega
            | some c => simp at hmc; have := hcap c rfl; omega
          rename_i y
          refine ⟨.slice (if m = l then A else A.map (·.add (l * sizeT P e))) (h - l) (m - l), ?_, ?_⟩
          · simp [Instr.sliceAt, Instr.slice, run_under hd, run_bounds3 true hlo hhi hm0 e1 e2 e3 hlh hhm hC, run_sizeT ht]
          · subst hsz
            refine .slice hφ (by omega) (fun c hc' => by injection hc') ?_ ?_
            · have h1 : (m - l) * sizeT P e + l * sizeT P e = m * sizeT P e := by rw [← Nat.add_mul]; congr 1; omega
              have h2 : m * sizeT P e ≤ C * sizeT P e := Nat.mul_le_mul_right _ hC
              omega
            · by_cases hCl : m = l
              · rcases ha with rfl | ⟨_, a, rfl⟩
                · exact .inr ⟨by omega, _, by rw [if_pos hCl]⟩
                · exact .inr ⟨by omega, _, by rw [if_pos hCl]⟩
              · rcases ha with rfl | ⟨h0, _⟩
                · left
                  rw [if_neg hCl]
                  simp [add_addr, Nat.add_assoc]
                · omega
        | slice0 hz => simp at hv0
      · cases hs
    · cases hs
  · rename_i e hd
    split at hs
    · rename_i e1 e2
      split at hs
      · rename_i ht
        injection hs with hs; subst hs
        cases hx; cases hmx
        refine ⟨.slice none 0 0, ?_, .nilSlice⟩
        simp [Instr.sliceAt, Instr.slice, run_under hd, run_bounds2 (len := 0) (cap := 0) true hlo hhi e1 e2 (Nat.le_refl _) (Nat.le_refl _), run_sizeT ht]
      · cases hs
    · cases hs
  · rename_i e sz xs nn hd
    split at hs
    · rename_i l h e1 e2
      split at hs
      · rename_i hc
        obtain ⟨ht, hsz, hsz0, hlh, hhc⟩ := hc
        injection hs with hs; subst hs
        cases hmx
        cases hx with
        | vals hk hxs hl hC ha =>
          rename_i ys B o len C A
          have hlen : xs.length / sz = len := by rw [hl]; exact Nat.mul_div_cancel _ hsz0
          rw [hlen] at e2
          have hhl : h ≤ len := by
            rw [hl] at hhc
            exact Nat.le_of_mul_le_mul_right hhc hsz0
          have hhC : h ≤ C := by omega
          refine ⟨.slice (if C = l then A else A.map (·.add (l * sizeT P e))) (h - l) (C - l), ?_, ?_⟩
          · simp [Instr.sliceAt, Instr.slice, run_under hd, run_bounds2 true hlo hhi e1 e2 hlh hhC, run_sizeT ht]
          · subst hsz
            refine .vals (B := B) (o := o + l * sizeT P e) (ys := (ys.drop (l * sizeT P e)).take ((h - l) * sizeT P e)) (fun i y ey => ?_) ((hxs.drop _).take _) ?_ (by omega) ?_
            · have hi : i < (h - l) * sizeT P e := by
                have := (List.getElem?_eq_some_iff.1 ey).1
                simp at this; omega
              rw [List.getElem?_take_of_lt hi, List.getElem?_drop] at ey
              rw [Nat.add_assoc]
              exact hk _ _ ey
            · have e3 : (h - l) * sizeT P e + l * sizeT P e = h * sizeT P e := by rw [← Nat.add_mul]; congr 1; omega
              rw [List.length_take, List.length_drop]
              omega
            · by_cases hCl : C = l
              · right
                refine ⟨by omega, ?_⟩
                rw [if_pos hCl]
                rcases ha with rfl | ⟨h0, ha⟩
                · intro hA; cases hA
                · intro hA; exact ⟨(ha hA).1, by omega⟩
              · rw [if_neg hCl]
                rcases ha with rfl | ⟨h0, ha⟩
                · left
                  simp [add_addr]
                · right
                  refine ⟨by omega, fun hA => ?_⟩
                  cases A with
                  | none => exact absurd (ha rfl).2 (by omega)
                  | some a => simp at hA
      · cases hs
    · cases hs
  · cases hs
end
end Go.Ab
