/- The operations on the abstract memory, one by one: structs, addresses, slices, numbers, strings. -/
import Derived.Test.YtaljgjnnpallpaaGreatA1
set_option linter.unusedVariables false
set_option linter.unusedSimpArgs false
namespace Go.Ab
open Go.RowKit

section
variable {base : Nat} {w0 : World} {P : Program} {φ : Phi} {H : Heap} {w : World}

/-! #### parts laid into cells -/
theorem VRs.splice_fold (off : Nat) : ∀ (vs : List AV) (vs' : List Value) (k : Nat) (cells : List AV) (cells' : Array Value), VRs φ cells cells'.toList → VRs φ vs vs' → off + k + vs.length ≤ cells.length →
    VRs φ (splice cells (off + k) vs) ((vs'.zipIdx k).foldl (fun cs (p : Value × Nat) => cs.setIfInBounds (off + p.2) p.1) cells').toList
  | [], _, k, cells, cells', h, .nil, _ => by simpa [splice_nil] using h
  | x :: vs, _, k, cells, cells', h, .cons hx hv, hl => by
    rename_i y vs'
    simp only [List.length_cons] at hl
    simp only [List.zipIdx_cons, List.foldl_cons]
    rw [splice_cons (by omega)]
    have := VRs.splice_fold off vs vs' (k + 1) (cells.set (off + k) x) (cells'.setIfInBounds (off + k) y) (by rw [Array.toList_setIfInBounds]; exact h.set _ hx) hv (by simp; omega)
    simpa [Nat.add_assoc] using this

def _root_.Go.Ab.AV.known : AV → Bool
  | .unk => false
  | _ => true
def aFill (place : Nat → Option (Nat × Nat)) (cells : List AV) : List (Nat × AV) → Option (List AV)
  | [] => some cells
  | (i, v) :: rest =>
    match place i with
    | none => none
    | some (off, size) => if v.known = true ∧ v.cells.length = size ∧ off + v.cells.length ≤ cells.length then aFill place (splice cells off v.cells) rest else none

theorem aFill_ok (place : Nat → Option (Nat × Nat)) : ∀ (parts : List (Nat × AV)) (parts' : List (Nat × Value)) (cells r : List AV) (cells' : Array Value), VRs φ cells cells'.toList → parts.map (·.1) = parts'.map (·.1) → VRs φ (parts.map (·.2)) (parts'.map (·.2)) → aFill place cells parts = some r →
    ∃ r', Instr.fill place cells' parts' = some r' ∧ VRs φ r r'.toList
  | [], [], cells, r, cells', h, _, _, hf => by
    simp only [aFill, Option.some.injEq] at hf; subst hf
    exact ⟨cells', rfl, h⟩
  | [], _ :: _, _, _, _, _, h, _, _ => by simp at h
  | _ :: _, [], _, _, _, _, h, _, _ => by simp at h
  | (i, v) :: parts, (i', v') :: parts', cells, r, cells', h, h1, h2, hf => by
    simp only [List.map_cons, List.cons.injEq] at h1
    obtain ⟨rfl, h1⟩ := h1
    simp only [List.map_cons] at h2
    cases h2 with
    | cons hv hvs =>
    unfold aFill at hf
    split at hf
    · cases hf
    · rename_i off size hp
      split at hf
      · rename_i hc
        have hcs := hv.cells (fun e => by subst e; simp [AV.known] at hc)
        have hl1 := hcs.length
        have hl2 := h.length
        simp at hl1 hl2
        have h3 := VRs.splice_fold off v.cells v'.cells.toList 0 cells cells' h hcs (by simp; omega)
        obtain ⟨r', e1, e2⟩ := aFill_ok place parts parts' _ r (v'.cells.zipIdx.foldl (fun cs (p : Value × Nat) => cs.setIfInBounds (off + p.2) p.1) cells') (by
          rw [← Array.foldl_toList, Array.toList_zipIdx]; simpa using h3) h1 hvs hf
        refine ⟨r', ?_, e2⟩
        unfold Instr.fill
        simp only [hp]
        rw [if_neg (by simp; omega)]
        exact e1
      · cases hf

theorem run_mapM {α β : Type} (f : α → Sem β) (g : α → β) : ∀ l : List α, (∀ x, x ∈ l → (f x).run P w = .ok (g x) w) → (l.mapM f).run P w = .ok (l.map g) w
  | [], _ => by simp
  | x :: l, h => by
    rw [List.mapM_cons]
    simp only [Sem.run_bind, h x (by simp), Result.andThen_ok, run_mapM f g l fun y hy => h y (by simp [hy]), Sem.run_pure, List.map_cons]

def sizeT (P : Program) (t : TypeId) : Nat := match P.info? t with | some i => i.size | none => 0
def hasT (P : Program) (t : TypeId) : Bool := (P.info? t).isSome
theorem run_sizeT {t : TypeId} (h : hasT P t = true) (w : World) : (sizeOf t).run P w = .ok (sizeT P t) w := by
  unfold hasT at h
  cases hi : P.info? t with
  | none => simp [hi] at h
  | some i => rw [run_sizeOf hi]; simp [sizeT, hi]

def zeroA (P : Program) (t : TypeId) : Option (List AV) :=
  match (P.info? t).bind (·.zero) with
  | some z => match ofV 4 z with | .unk => none | v => some v.cells
  | none => none
theorem zeroA_ok {t : TypeId} {zs : List AV} (h : zeroA P t = some zs) : ∃ z, (∀ w, (zeroValue t).run P w = .ok z w) ∧ VRs φ zs z.cells.toList := by
  unfold zeroA at h
  split at h
  · rename_i z hz
    obtain ⟨i, hi, hz⟩ := Option.bind_eq_some_iff.1 hz
    have hr := ofV_ok φ 4 z
    split at h
    · cases h
    · rename_i v hne
      injection h with h; subst h
      exact ⟨z, fun w => run_zeroValue hi hz w, hr.cells fun e => hne e⟩
  · cases h

def aBuild (P : Program) (t : TypeId) (parts : List (Nat × AV)) : Option AV :=
  match zeroA P t, P.underlying t with
  | some zs, some (.struct fields) =>
    if fields.toList.all (fun f => hasT P f.type) then
      (aFill (fun i => (fields[i]?).map fun f => (f.offset, sizeT P f.type)) zs parts).map .agg
    else none
  | some zs, some (.array _ e) =>
    if hasT P e then (aFill (fun i => some (i * sizeT P e, sizeT P e)) zs parts).map .agg else none
  | _, _ => none
theorem aBuild_ok {t : TypeId} {parts : List (Nat × AV)} {parts' : Array (Nat × Value)} {r : AV} (h1 : parts.map (·.1) = parts'.toList.map (·.1)) (h2 : VRs φ (parts.map (·.2)) (parts'.toList.map (·.2))) (h : aBuild P t parts = some r) :
    ∃ v, (Instr.build t parts').run P w = .ok v w ∧ VR φ r v := by
  unfold aBuild at h
  split at h
  · rename_i zs fields hz hd
    obtain ⟨z, hz1, hz2⟩ := zeroA_ok (φ := φ) hz
    split at h
    · rename_i hall
      obtain ⟨cs, hf, rfl⟩ := Option.map_eq_some_iff.1 h
      obtain ⟨r', e1, e2⟩ := aFill_ok _ _ _ _ _ z.cells hz2 h1 h2 hf
      refine ⟨.agg r', ?_, .agg e2⟩
      simp only [Instr.build, Sem.run_bind, hz1, Result.andThen_ok, run_under hd]
      rw [Array.mapM_eq_mapM_toList]
      simp only [Sem.run_map]
      rw [run_mapM _ (fun f : Field => (f.offset, sizeT P f.type)) fields.toList fun f hf' => by
        simp only [Sem.run_bind, run_sizeT (List.all_eq_true.1 hall f hf'), Result.andThen_ok, Sem.run_pure]]
      simp only [Result.andThen_ok]
      have : (fun i : Nat => ((List.map (fun f : Field => (f.offset, sizeT P f.type)) fields.toList).toArray)[i]?) = fun i : Nat => (fields[i]?).map fun f : Field => (f.offset, sizeT P f.type) := by
        funext i; simp
      rw [this, e1]
      rfl
    · cases h
  · rename_i zs n e hz hd
    obtain ⟨z, hz1, hz2⟩ := zeroA_ok (φ := φ) hz
    split at h
    · rename_i he
      obtain ⟨cs, hf, rfl⟩ := Option.map_eq_some_iff.1 h
      obtain ⟨r', e1, e2⟩ := aFill_ok _ _ _ _ _ z.cells hz2 h1 h2 hf
      refine ⟨.agg r', ?_, .agg e2⟩
      simp only [Instr.build, Sem.run_bind, hz1, Result.andThen_ok, run_under hd, run_sizeT he]
      rw [e1]
      rfl
    · cases h
  · cases h

/-! #### many zeros -/
def aZeros (zs : List AV) (n : Nat) : List AV :=
  match zs with
  | [z] => List.replicate n z
  | zs => (List.range n).map fun i => zs.getD (i % zs.length) .unk
theorem aZeros_length (zs : List AV) (n : Nat) : (aZeros zs n).length = n := by unfold aZeros; split <;> simp
theorem aZeros_ok {zs : List AV} {z : Array Value} (h : VRs φ zs z.toList) (n : Nat) : VRs φ (aZeros zs n) ((Array.range n).map (z[· % z.size]!)).toList := by
  have hl := h.length
  simp at hl
  refine VRs.of_get _ _ (by simp [aZeros_length]) fun i x hx => ?_
  have hi : i < n := by have := (List.getElem?_eq_some_iff.1 hx).1; rw [aZeros_length] at this; exact this
  refine ⟨z[i % z.size]!, by simp [hi], ?_⟩
  have key : ∀ j (x : AV), zs[j]? = some x → j < z.size → VR φ x z[j]! := fun j x hx hj => by
    obtain ⟨y, h1, h2⟩ := h.get j x hx
    simp only [Array.getElem?_toList] at h1
    rw [getElem!_def, h1]; exact h2
  unfold aZeros at hx
  split at hx
  · rename_i z0
    have hz : z.size = 1 := by simpa using hl.symm
    simp [List.getElem?_replicate, hi] at hx; subst hx
    exact key _ _ (by rw [hz]; simp [Nat.mod_one]) (by rw [hz]; simp [Nat.mod_one])
  · simp [hi] at hx; subst hx
    rcases Nat.eq_zero_or_pos zs.length with h0 | h0
    · rw [List.getElem?_eq_none (by rw [h0]; simp)]
      exact .unk _
    · have hlt : i % zs.length < zs.length := Nat.mod_lt _ h0
      rw [List.getElem?_eq_getElem hlt]
      simp only [Option.getD_some]
      rw [← hl]
      exact key _ _ (List.getElem?_eq_getElem hlt) (by omega)

/-! #### a literal, a make -/
def bBuildSlice (P : Program) (t : TypeId) (len : Nat) (parts : List (Nat × AV)) : Option Birth :=
  match P.underlying t with
  | some (.slice e) =>
    match len, parts with
    | 0, [] => if hasT P e then some ([], fun b => .slice (sizeT P e) b 0 0 0 (some 0)) else none
    | _, _ => match zeroA P e with
      | some zs =>
        if hasT P e ∧ 0 < len * sizeT P e ∧ len * sizeT P e ≤ 2 ^ 24 then
          match aFill (fun i => some (i * sizeT P e, sizeT P e)) (aZeros zs (len * sizeT P e)) parts with
          | some cells => if cells.length = len * sizeT P e then some (cells, fun b => .slice (sizeT P e) b 0 len cells.length (some len)) else none
          | none => none
        else none
      | none => none
  | _ => none
theorem bBuildSlice_ok (h : Rel base w0 φ H w) {t : TypeId} {len : Nat} {parts : List (Nat × AV)} {parts' : Array (Nat × Value)} {r : Birth} (h1 : parts.map (·.1) = parts'.toList.map (·.1)) (h2 : VRs φ (parts.map (·.2)) (parts'.toList.map (·.2)))
    (hs : bBuildSlice P t len parts = some r) : Born base w0 P φ H w (Instr.buildSlice t len parts') r.1 r.2 := by
  unfold bBuildSlice at hs
  split at hs
  · rename_i e hd
    split at hs
    · split at hs
      · rename_i hc
        injection hs with hs; subst hs
        have hp : parts' = #[] := by
          have := congrArg List.length h1
          simp at this
          exact Array.eq_empty_of_size_eq_zero this.symm
        subst hp
        refine born h #[] e (by simp) (fun i x hx => by simp at hx) (v := .slice (some ⟨w.heap.size, 0, none⟩) 0 0) ?_ fun b φ' hφ => ?_
        · simp only [Instr.buildSlice, Sem.run_bind, run_under hd, Result.andThen_ok, run_sizeT hc]
          rw [if_neg (by simp)]
          have e0 : ∀ f : Nat → Value, (Array.range 0).map f = #[] := fun f => by simp
          simp [Instr.fill, newRow, e0]
        · exact .slice (o := 0) (off := 0) hφ (Nat.le_refl _) (fun c hc' => by injection hc') (by simp) (.inl rfl)
      · cases hs
    split at hs
    · rename_i zs hz
      obtain ⟨z, hz1, hz2⟩ := zeroA_ok (φ := φ) hz
      split at hs
      · rename_i hc
        split at hs
        · rename_i cells hf
          split at hs
          · rename_i hcl
            injection hs with hs; subst hs
            obtain ⟨cs, f1, f2⟩ := aFill_ok _ _ _ _ _ _ (aZeros_ok hz2 (len * sizeT P e)) h1 h2 hf
            have hl := f2.length
            simp at hl
            refine born h cs e (by simp only; omega) (fun i x hx => by simpa using f2.get i x hx) (v := .slice (some ⟨w.heap.size, 0, none⟩) len len) ?_ fun b φ' hφ => ?_
            · simp only [Instr.buildSlice, Sem.run_bind, run_under hd, Result.andThen_ok, run_sizeT hc.1]
              rw [if_neg (by omega)]
              rw [if_neg (by omega)]
              simp only [Sem.run_bind, Sem.run_pure, Result.andThen_ok, hz1]
              rw [f1]
              simp [newRow]
            · exact .slice (o := 0) (off := 0) hφ (Nat.le_refl _) (fun c hc' => by injection hc') (by omega) (.inl rfl)
          · cases hs
        · cases hs
      · cases hs
    · cases hs
  · cases hs
end
end Go.Ab
