/- The operations on the abstract memory, one by one: append, copy, lengths, the rest. -/
import Derived.Test.YtaljgjnnpallpaaGreatA5
set_option linter.unusedVariables false
set_option linter.unusedSimpArgs false
namespace Go.Ab
open Go.RowKit

section
variable {base : Nat} {w0 : World} {P : Program} {φ : Phi} {H : Heap} {w : World}

theorem run_append_fits {sT xT e : TypeId} {dx : TypeDesc} {i : TypeInfo} {A : Option Addr} {len C n : Nat} {x' : Value} {new : Array Value} (ty : TypeId) (hd : P.underlying sT = some (.slice e)) (hdx : P.underlying xT = some dx) (hdi : isIntD dx = false) (hi : P.info? e = some i)
    (hn : (Builtin.lenOf x').run P w = .ok n w) (hf : (Builtin.firstCells i.size n x').run P w = .ok new w) (hC : len + n ≤ C) :
    (Builtin.append_ #[sT, xT] ty #[.slice A len C, x']).run P w = (do (match A with | some a => Go.storeCells (a.add (len * i.size)) new.toList | none => pure ()); pure (.slice A (len + n) C) : Sem Value).run P w := by
  cases dx <;> first
    | (simp [isIntD] at hdi; done)
    | (simp only [Builtin.append_, List.getElem?_toArray, List.getElem?_cons_zero, List.getElem?_cons_succ, Sem.run_bind, run_under hd, Result.andThen_ok, run_sizeOf hi, run_under hdx, Sem.run_pure, Bool.false_eq_true, if_false, hn, hC, if_true, Bool.not_false, hf]
       cases A <;> first | rfl | (simp only [Sem.run_bind, Sem.run_pure]))

theorem run_append_grows {sT xT e : TypeId} {dx : TypeDesc} {i : TypeInfo} {A : Option Addr} {len C n : Nat} {x' z : Value} {old new : Array Value} (ty : TypeId) (hd : P.underlying sT = some (.slice e)) (hdx : P.underlying xT = some dx) (hdi : isIntD dx = false) (hi : P.info? e = some i) (hz : i.zero = some z)
    (hn : (Builtin.lenOf x').run P w = .ok n w) (ho : (Builtin.firstCells i.size len (.slice A len C)).run P w.drew = .ok old w.drew) (hf : (Builtin.firstCells i.size n x').run P w.drew = .ok new w.drew) (hC : ¬ len + n ≤ C) (hb : 0 < i.bytes) (hm : (len + n) * i.bytes ≤ 140737488355328) :
    ∃ cap, len + n ≤ cap ∧ (Builtin.append_ #[sT, xT] ty #[.slice A len C, x']).run P w = .ok (.slice (some ⟨w.heap.size, 0, none⟩) (len + n) cap) (w.drew.alloc (.cells (old ++ new ++ Builtin.zeroCells z.cells (cap - (len + n))) e)) := by
  have hmm : len + n ≤ 140737488355328 := Nat.le_trans (Nat.le_mul_of_pos_right _ hb) hm
  have hcap : Builtin.nextslicecap (len + n) C * i.bytes ≤ 281474976710656 := by
    have h1 := nextslicecap_le (m := len + n) (c := C) (by omega)
    have h2 := Nat.mul_le_mul_right i.bytes h1
    have h3 : 2 * (len + n) * i.bytes = 2 * ((len + n) * i.bytes) := by rw [Nat.mul_assoc]
    omega
  have hmax : IntKind.i64.max = 9223372036854775807 := by decide
  refine ⟨(len + n) + (w.tape w.drawn (.appendCap (len + n) C e)) % (2 ^ 63 - (len + n)), by omega, ?_⟩
  have e1 : ¬(((len + n : Nat) : Int) > IntKind.i64.max ∧ (False ∨ i.bytes = 0)) := by rw [hmax]; omega
  have e2 : ¬(Builtin.nextslicecap (len + n) C * i.bytes > 2 ^ 48) := by
    have : (2 : Nat) ^ 48 = 281474976710656 := by decide
    omega
  cases dx <;> first
    | (simp [isIntD] at hdi; done)
    | (simp only [Builtin.append_, List.getElem?_toArray, List.getElem?_cons_zero, List.getElem?_cons_succ, Sem.run_bind, run_under hd, Result.andThen_ok, run_sizeOf hi, run_under hdx, Sem.run_pure, Bool.false_eq_true, if_false, hn, hC, Bool.not_false, run_typeInfo hi, e1, e2, if_true, run_choose, Question.forced, Question.cut, run_askRoom, World.drew_eq, ho, hf, run_zeroValue hi hz, newRow, run_newObj]
       rfl)

theorem zeroA_val {e : TypeId} {i : TypeInfo} {zs : List AV} (φ : Phi) (hi : P.info? e = some i) (h : zeroA P e = some zs) : ∃ z, i.zero = some z ∧ VRs φ zs z.cells.toList := by
  unfold zeroA at h
  rw [hi] at h
  simp only [Option.bind_some] at h
  cases hz : i.zero with
  | none => rw [hz] at h; cases h
  | some z =>
    rw [hz] at h
    refine ⟨z, rfl, ?_⟩
    have hr := ofV_ok φ 4 z
    simp only at h
    split at h
    · cases h
    · rename_i v hne
      injection h with h; subst h
      exact hr.cells fun e => hne e

/-- A row in new memory, with room behind it. -/
theorem aNewRow_ok (h : Rel base w0 φ H w) {sz n cap : Nat} {cells : List AV} {cs rest : Array Value} {e : TypeId} (hv : VRs φ cells cs.toList) (hl : cells.length = n * sz) (hcap : n ≤ cap) (hr : cap * sz ≤ cs.size + rest.size) {s : Sem Value}
    (hs : s.run P w = .ok (.slice (some ⟨w.heap.size, 0, none⟩) n cap) (w.drew.alloc (.cells (cs ++ rest) e))) : Does base w0 P φ H w s (aNewRow sz cells n H).1 (aNewRow sz cells n H).2 := by
  have hl2 := hv.length
  simp at hl2
  obtain ⟨n1, n2⟩ := h.drew.new cells (cs ++ rest) e (by simp; omega) (fun i x hx => by
    obtain ⟨y, h1, h2⟩ := hv.get i x hx
    refine ⟨y, ?_, h2⟩
    have hi : i < cs.size := by have := (List.getElem?_eq_some_iff.1 hx).1; omega
    rw [Array.getElem?_append_left hi]
    simpa using h1) (0, 0) (.inl (Nat.le_refl _))
  refine ⟨_, _, _, hs, n2, by simp [aNewRow], n1, ?_⟩
  refine .slice (o := 0) (off := 0) (Phi.put_same _ _ _ _) hcap (fun c hc => by cases hc) (by simp; omega) (.inl rfl)

theorem zeroCells_size (z : Array Value) (n : Nat) : (Builtin.zeroCells z n).size = n * z.size := by simp [Builtin.zeroCells]

theorem VRs.toArray {xs : List AV} {ys : List Value} (h : VRs φ xs ys) : VRs φ xs ys.toArray.toList := h

theorem aAppend_ok (h : Rel base w0 φ H w) {sT xT : TypeId} {s x r : AV} {s' x' : Value} {H' : Heap} (ty : TypeId) (hs : VR φ s s') (hx : VR φ x x') (ha : aAppend P sT xT s x H = some (r, H')) : Does base w0 P φ H w (Builtin.append_ #[sT, xT] ty #[s', x']) r H' := by
  unfold aAppend at ha
  split at ha
  · rename_i e dx hd hdx
    split at ha
    · rename_i i zs hi hz
      obtain ⟨z, hz', hzv⟩ := zeroA_val φ hi hz
      split at ha
      · rename_i n xs hn hxs
        split at ha
        · rename_i hc
          obtain ⟨hdi, hzl, hsz, hby, hm, hone⟩ := hc
          have hzsz : z.cells.size = i.size := by have := hzv.length; simp at this; omega
          obtain ⟨new, f1, f2, f3⟩ := h.firstCells (P := P) hx hxs hn
          obtain ⟨newd, fd1, fd2, fd3⟩ := h.drew.firstCells (P := P) hx hxs hn
          have hln := run_lenOf (P := P) (w := w) hx hn
          -- in new memory
          have grows : ∀ {A : Option Addr} {len C : Nat} {old : List AV} {oldv : List Value}, ¬ len + n ≤ C → (len + n) * i.bytes ≤ 140737488355328 → (Builtin.firstCells i.size len (.slice A len C)).run P w.drew = .ok oldv.toArray w.drew → VRs φ old oldv → old.length = len * i.size →
              Does base w0 P φ H w (Builtin.append_ #[sT, xT] ty #[.slice A len C, x']) (aNewRow i.size (old ++ xs) (len + n) H).1 (aNewRow i.size (old ++ xs) (len + n) H).2 := by
            intro A len C old oldv hC hmm ho hov hol
            obtain ⟨cap, hcap, hrun⟩ := run_append_grows (P := P) (w := w) ty hd hdx hdi hi hz' hln ho fd1 hC hby hmm
            have hlv := hov.length
            have hlx := fd2.length
            refine aNewRow_ok (cap := cap) (cs := oldv.toArray ++ newd.toArray) h (by simpa using hov.append fd2) (by simp [hol, f3, Nat.add_mul]) hcap ?_ hrun
            rw [zeroCells_size, hzsz]
            have e1 : (oldv.toArray ++ newd.toArray).size = (len + n) * i.size := by simp [← hlv, ← hlx, hol, f3, Nat.add_mul]
            rw [e1, ← Nat.add_mul]
            exact Nat.mul_le_mul_right _ (by omega)
          split at ha
          · rename_i hn0
            subst hn0
            have hnil : xs = [] := List.eq_nil_of_length_eq_zero (by rw [f3]; simp)
            subst hnil
            cases f2
            have fits : ∀ {A : Option Addr} {len C : Nat}, len ≤ C → (Builtin.append_ #[sT, xT] ty #[.slice A len C, x']).run P w = .ok (.slice A len C) w := by
              intro A len C hl
              rw [run_append_fits (P := P) (w := w) ty hd hdx hdi hi hln f1 (by omega)]
              cases A <;> simp [Go.storeCells]
            split at ha
            · injection ha with ha; injection ha with e1 e2; subst e1; subst e2
              cases hs
              exact does_pure h (fits (Nat.le_refl _)) .nilSlice
            · injection ha with ha; injection ha with e1 e2; subst e1; subst e2
              cases hs with
              | slice hφ hl hcap hS hA => exact does_pure h (fits hl) (.slice hφ hl hcap hS hA)
              | slice0 hz => exact does_pure h (fits (Nat.le_refl _)) (.slice0 hz)
            · injection ha with ha; injection ha with e1 e2; subst e1; subst e2
              cases hs with
              | vals hk hxs hl hC hA => exact does_pure h (fits hC) (.vals hk hxs hl hC hA)
            · cases ha
          · rename_i hn0
            unfold aAppendTo at ha
            split at ha
            · injection ha with ha; injection ha with e1 e2; subst e1; subst e2
              cases hs
              have := grows (A := none) (len := 0) (C := 0) (old := []) (oldv := []) (by omega) (by simpa [aLenS] using hm) (by simp [Builtin.firstCells]) .nil (by simp)
              simpa [aNewRow] using this
            · rename_i sz' b off len ver cap
              simp only [aLenS] at hm
              split at ha
              · rename_i hsz'
                subst hsz'
                split at ha
                · rename_i c
                  split at ha
                  · rename_i hfit
                    split at ha
                    · rename_i cells mv hb
                      split at ha
                      · rename_i hcc
                        obtain ⟨hver, hcc⟩ := hcc
                        injection ha with ha; injection ha with e1 e2; subst e1; subst e2
                        cases hs with
                        | slice hφ hl hcap hS hA =>
                          subst hver
                          rename_i B o S C A
                          have hCc := hcap c rfl
                          subst hCc
                          have k := h.blk b cells mv false hb _ _ _ _ hφ
                          obtain ⟨_, rfl, _⟩ := k.own rfl
                          rcases hA with rfl | ⟨h0, _⟩
                          · have hpos : 0 < xs.length := by rw [f3]; exact Nat.mul_pos (by omega) hsz
                            have hmul : (len + n) * i.size = len * i.size + xs.length := by rw [Nat.add_mul, f3]
                            obtain ⟨w', g1, g2⟩ := Rel.storeCells (P := P) xs new (off + len * i.size) 0 cells mv H w h hb rfl hφ f2 hone (by omega) hpos
                            refine ⟨.slice (some ⟨B, 0 + off, none⟩) (len + n) C, w', φ, ?_, Ext.refl _ _ _, by simp, by simpa using g2, .slice hφ (by omega) hcap hS (.inl rfl)⟩
                            rw [run_append_fits (P := P) (w := w) ty hd hdx hdi hi hln f1 hfit]
                            simp only [Sem.run_bind, add_addr, Nat.zero_add]
                            rw [g1]
                            simp
                          · omega
                      · cases ha
                    · cases ha
                  · rename_i hfit
                    split at ha
                    · rename_i old hold
                      injection ha with ha; injection ha with e1 e2; subst e1; subst e2
                      have hlo : aLen (.slice i.size b off len ver (some c)) = some len := rfl
                      obtain ⟨oldv, o1, o2, o3⟩ := h.drew.firstCells (P := P) hs hold hlo
                      cases hs with
                      | slice hφ hl hcap hS hA =>
                        have hCc := hcap c rfl
                        exact grows (by omega) hm o1 o2 o3
                    · cases ha
                · split at ha
                  · rename_i cells mv hb
                    split at ha
                    · rename_i hcc
                      obtain ⟨hoff, hlen, hver, hmv⟩ := hcc
                      injection ha with ha; injection ha with e1 e2; subst e1; subst e2
                      cases hs with
                      | slice hφ hl hcap hS hA =>
                        subst hoff; subst hver
                        rename_i B o S C A
                        have k := h.blk b cells mv false hb _ _ _ _ hφ
                        obtain ⟨hB, rfl, hfr⟩ := k.own rfl
                        have hpos : 0 < xs.length := by rw [f3]; exact Nat.mul_pos (by omega) hsz
                        have hmul : (len + n) * i.size = len * i.size + xs.length := by rw [Nat.add_mul, f3]
                        by_cases hfit : len + n ≤ C
                        · rcases hA with rfl | ⟨h0, _⟩
                          · have hroom : cells.length + xs.length ≤ S := by
                              have := Nat.mul_le_mul_right i.size hfit
                              omega
                            obtain ⟨w', g1, g2, g3⟩ := Rel.storeBehind (P := P) new 0 cells mv w [] h hb rfl hφ (f2.ones hone) (by have := f2.length; omega) rfl (fun j y hj => by simp at hj)
                            have k2 := g2.blk b cells mv false hb _ _ _ _ hφ
                            obtain ⟨c2, e2, fz2, hc2, hS2⟩ := k2.lies
                            obtain ⟨r1, r2⟩ := g2.grow (xs := xs) hb hmv (h.awake hφ) hpos (k.free rfl) hB (fun b' v' o' S' hX => Classical.byContradiction fun hne => g2.inj b cells mv hb b' _ v' B 0 S o' S' (fun e => hne e.symm) hφ hX) hroom ⟨c2, e2, fz2, hc2, by omega⟩ (k2.own rfl).2.2 (fun j x hj => by
                              by_cases hjl : j < cells.length
                              · rw [List.getElem?_append_left hjl] at hj
                                obtain ⟨y, y1, y2⟩ := k2.reads hmv j x hjl hj
                                exact ⟨y, by simpa using y1, y2⟩
                              · rw [List.getElem?_append_right (by omega)] at hj
                                obtain ⟨y, y1, y2⟩ := f2.get _ x hj
                                refine ⟨y, ?_, y2⟩
                                have := g3 (j - cells.length) y (by simpa using y1)
                                rwa [show cells.length + (j - cells.length) = j by omega] at this)
                            refine ⟨.slice (some ⟨B, 0 + 0, none⟩) (len + n) C, w', _, ?_, r2, by simp, r1, .slice (Phi.put_same _ _ _ _) hfit (fun c hc => by cases hc) (by omega) (.inl rfl)⟩
                            rw [run_append_fits (P := P) (w := w) ty hd hdx hdi hi hln f1 hfit]
                            simp only [Sem.run_bind, add_addr, Nat.zero_add, hlen]
                            rw [g1]
                            simp
                          · omega
                        · obtain ⟨oldv, o1, o2, o3⟩ := h.drew.firstCells (P := P) (sz := i.size) (x := .slice i.size b 0 len cells.length none) (n := len) (cells := cells) (.slice hφ hl hcap hS hA) (by simp [aCellsOf, hb, hmv, hlen]) rfl
                          obtain ⟨cap, hcap2, hrun⟩ := run_append_grows (P := P) (w := w) ty hd hdx hdi hi hz' hln o1 fd1 hfit hby hm
                          have hlv := o2.length
                          have hlx := fd2.length
                          have hw' := h.drew.later (w' := w.drew.alloc (.cells (oldv.toArray ++ newd.toArray ++ Builtin.zeroCells z.cells (cap - (len + n))) e)) ⟨rfl, rfl, rfl, by simp, fun k hk => Below.heap_alloc _ _ _ hk⟩
                          have hsize : (oldv.toArray ++ newd.toArray ++ Builtin.zeroCells z.cells (cap - (len + n))).size = cap * i.size := by
                            rw [Array.size_append, zeroCells_size, hzsz]
                            have e1 : (oldv.toArray ++ newd.toArray).size = (len + n) * i.size := by simp [← hlv, ← hlx, ← hlen, f3, Nat.add_mul]
                            rw [e1, ← Nat.add_mul]
                            congr 1; omega
                          obtain ⟨r1, r2⟩ := hw'.grow (xs := xs) hb hmv (h.awake hφ) hpos (B := w.heap.size) (S := cap * i.size) (fun j => h.newK (Nat.le_refl _) j) h.size (fun b' v' o' S' hX => absurd (h.lt _ _ _ _ _ hX) (Nat.lt_irrefl _)) (by have := Nat.mul_le_mul_right i.size hcap2; omega) ⟨_, _, _, heap_alloc_self w.drew _, by rw [hsize]; exact Nat.le_refl _⟩ (fun j _ => World.frozen?_alloc_new w.drew _ _ j) (fun j x hj => by
                            obtain ⟨y, y1, y2⟩ := (o2.append fd2).get j x hj
                            refine ⟨y, ?_, y2⟩
                            have hjl : j < (oldv ++ newd).length := (List.getElem?_eq_some_iff.1 y1).1
                            rw [show w.heap.size = w.drew.heap.size from rfl, cell_alloc_self, Array.getElem?_append_left (by simpa using hjl)]
                            simpa using y1)
                          refine ⟨_, _, _, hrun, r2, by simp, r1, ?_⟩
                          exact .slice (o := 0) (off := 0) (Phi.put_same _ _ _ _) hcap2 (fun c hc => by cases hc) (by omega) (.inl rfl)
                      | slice0 hz0 =>
                        have hcells : cells = [] := List.eq_nil_of_length_eq_zero (by omega)
                        subst hcells
                        have hfit : ¬ 0 + n ≤ 0 := by omega
                        have hpos : 0 < xs.length := by rw [f3]; exact Nat.mul_pos (by omega) hsz
                        obtain ⟨cap, hcap2, hrun⟩ := run_append_grows (P := P) (w := w) (A := none) (len := 0) (C := 0) (old := #[]) ty hd hdx hdi hi hz' hln (by simp [Builtin.firstCells]) fd1 hfit hby hm
                        have hlx := fd2.length
                        have hw' := h.drew.later (w' := w.drew.alloc (.cells (#[] ++ newd.toArray ++ Builtin.zeroCells z.cells (cap - (0 + n))) e)) ⟨rfl, rfl, rfl, by simp, fun k hk => Below.heap_alloc _ _ _ hk⟩
                        have hsize : (#[] ++ newd.toArray ++ Builtin.zeroCells z.cells (cap - (0 + n))).size = cap * i.size := by
                          rw [Array.size_append, zeroCells_size, hzsz]
                          have e1 : (#[] ++ newd.toArray).size = (0 + n) * i.size := by simp [← hlx, f3]
                          rw [e1, ← Nat.add_mul]
                          congr 1; omega
                        obtain ⟨r1, r2⟩ := hw'.grow (xs := xs) (cells := []) hb hmv hz0 hpos (B := w.heap.size) (S := cap * i.size) (fun j => h.newK (Nat.le_refl _) j) h.size (fun b' v' o' S' hX => absurd (h.lt _ _ _ _ _ hX) (Nat.lt_irrefl _)) (by have := Nat.mul_le_mul_right i.size hcap2; simp at this ⊢; omega) ⟨_, _, _, heap_alloc_self w.drew _, by rw [hsize]; exact Nat.le_refl _⟩ (fun j _ => World.frozen?_alloc_new w.drew _ _ j) (fun j x hj => by
                          obtain ⟨y, y1, y2⟩ := fd2.get j x (by simpa using hj)
                          refine ⟨y, ?_, y2⟩
                          have hjl : j < newd.length := (List.getElem?_eq_some_iff.1 y1).1
                          rw [show w.heap.size = w.drew.heap.size from rfl, cell_alloc_self, Array.getElem?_append_left (by simpa using hjl)]
                          simpa using y1)
                        refine ⟨_, _, _, hrun, r2, by simp, r1, ?_⟩
                        exact .slice (o := 0) (off := 0) (Phi.put_same _ _ _ _) hcap2 (fun c hc => by cases hc) (by simp) (.inl rfl)
                    · cases ha
                  · cases ha
              · cases ha
            · cases ha
        · cases ha
      · cases ha
    · cases ha
  · cases ha
end
end Go.Ab
