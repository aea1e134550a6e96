/-
  'dn' IS SOUND for the kit's 'Code.wpIn', for every tape.
-/
import Derived.Test.YtabidhoaginokaaVcE
namespace Go.Proofs.Ytabidhoaginokaa.Vc
open Go
set_option linter.unusedVariables false
set_option linter.unusedSimpArgs false


theorem nth_set {α : Type} : ∀ (l : List α) (d i : Nat) (x : α), nth (l.set d x) i = if d = i ∧ d < l.length then some x else nth l i
  | [], d, i, x => by simp [nth]
  | y :: r, 0, 0, x => by simp [nth]
  | y :: r, 0, i + 1, x => by simp [nth]
  | y :: r, d + 1, 0, x => by simp [nth]
  | y :: r, d + 1, i + 1, x => by
    have := nth_set r d i x
    simp only [List.set_cons_succ, nth, this, List.length_cons, Nat.add_lt_add_iff_right, Nat.add_right_cancel_iff]
theorem Fits.set {fr : Fr} {t : Array Value} (h : Fits fr t) (d : Nat) (v : Value) : Fits (fr.set d (some v)) (t.setIfInBounds d v) := by
  refine ⟨by simpa using h.1, fun i u hu => ?_⟩
  rw [nth_set] at hu
  split at hu
  · rename_i hd
    obtain ⟨rfl, hd⟩ := hd
    cases hu
    have : d < t.size := by rw [← h.1]; exact hd
    simp [Array.getElem?_setIfInBounds, this]
  · rename_i hd
    have := h.2 i u hu
    rw [Array.getElem?_setIfInBounds]
    split
    · rename_i e
      subst e
      split
      · rename_i hlt
        exact absurd ⟨rfl, by rw [h.1]; exact hlt⟩ hd
      · rename_i hlt
        simp [Array.getElem?_eq_none (Nat.le_of_not_lt hlt)] at this
    · exact this
theorem Fits.forget {fr : Fr} {t : Array Value} (h : Fits fr t) (d : Nat) : Fits (fr.set d none) t := by
  refine ⟨by simpa using h.1, fun i u hu => ?_⟩
  rw [nth_set] at hu
  split at hu
  · cases hu
  · exact h.2 i u hu
theorem Fits.know {fr : Fr} {t : Array Value} (h : Fits fr t) (d : Nat) (v : Value) (hv : nth fr d = some (some v)) (u : Value) (e : u = v) : Fits (fr.set d (some u)) t := by
  subst e
  refine ⟨by simpa using h.1, fun i u hu => ?_⟩
  rw [nth_set] at hu
  split at hu
  · rename_i hd; obtain ⟨rfl, _⟩ := hd; cases hu; exact h.2 _ _ hv
  · exact h.2 i u hu
theorem Fits.put {fr : Fr} {a : Act} (h : Fits fr a.tmps) (d : Option Nat) (v : Value) : Fits (putF fr d v) (a.put d v).tmps := by
  cases d with
  | none => exact h
  | some d => exact h.set d v
theorem maskF_length : ∀ (m : Nat) (fr : Fr), (maskF m fr).length = fr.length
  | m, [] => rfl
  | m, v :: r => by simp [maskF, maskF_length (m / 2) r]
theorem maskF_nth : ∀ (m : Nat) (fr : Fr) (i : Nat) (v : Value), nth (maskF m fr) i = some (some v) → nth fr i = some (some v)
  | m, [], i, v, h => h
  | m, x :: r, 0, v, h => by
    simp only [maskF, nth, Option.some.injEq] at h ⊢
    split at h
    · cases h
    · exact h
  | m, x :: r, i + 1, v, h => maskF_nth (m / 2) r i v h
theorem Fits.mask {fr : Fr} {t : Array Value} (h : Fits fr t) (m : Nat) : Fits (maskF m fr) t :=
  ⟨by rw [maskF_length]; exact h.1, fun i v hv => h.2 i v (maskF_nth m fr i v hv)⟩
theorem nthF_some {fr : Fr} {d : Nat} {v : Value} (h : nthF fr d = some v) : nth fr d = some (some v) := by
  unfold nthF at h
  split at h
  · rename_i x hx; rw [hx, h]
  · cases h
theorem Fits.eval {fr : Fr} {a : Act} (h : Fits fr a.tmps) {x : Operand} {v : Value} (hx : getF fr x = some v) : a.eval x = v := by
  cases x with
  | tmp t =>
    have := h.2 t v (nthF_some hx)
    simp only [Act.eval]
    rw [Array.getD_eq_getD_getElem?, this]; rfl
  | const v => cases hx; rfl
  | global g => cases hx; rfl
  | func f => cases hx; rfl
theorem avail_eval {fr : Fr} {a : Act} (h : Fits fr a.tmps) : ∀ {l : List Operand}, availF fr l = true → ∀ x ∈ l, a.eval x = rhoF fr x
  | [], _, x, hx => by simp at hx
  | y :: r, hl, x, hx => by
    unfold availF at hl
    split at hl
    · rename_i v hv
      rcases List.mem_cons.1 hx with rfl | hx
      · rw [h.eval hv]; simp [rhoF, hv]
      · exact avail_eval h hl x hx
    · cases hl

theorem execOp_congr {ρ ρ' : Operand → Value} (o : Oper) (h : ∀ x ∈ o.op.operands.toList, ρ x = ρ' x) : execOp ρ o = execOp ρ' o := by
  obtain ⟨dst, op, ty, pos, aft, gd⟩ := o
  have am : ∀ (xs : Array Operand), (∀ x ∈ xs.toList, ρ x = ρ' x) → xs.map ρ = xs.map ρ' := by
    intro xs hx
    apply Array.ext'
    simp only [Array.toList_map]
    exact List.map_congr_left hx
  have om : ∀ (x : Option Operand), (∀ y ∈ x.toArray.toList, ρ y = ρ' y) → x.map ρ = x.map ρ' := by
    intro x hx
    cases x with
    | none => rfl
    | some x => simp only [Option.map_some, Option.some.injEq]; exact hx x (by simp)
  have pm : ∀ (xs : Array (Nat × Operand)), (∀ x ∈ (xs.toList.map (·.2)).toArray.toList, ρ x = ρ' x) → (xs.map fun (i, x) => (i, ρ x)) = (xs.map fun (i, x) => (i, ρ' x)) := by
    intro xs hx
    apply Array.ext'
    simp only [Array.toList_map]
    refine List.map_congr_left fun q hq => ?_
    simp only [Prod.mk.injEq, true_and]
    exact hx q.2 (by simp; exact ⟨q.1, by simpa using hq⟩)
  have cm : ∀ (c : Call), (∀ x ∈ c.operands.toList, ρ x = ρ' x) → ∀ t, resolve ρ c t = resolve ρ' c t := by
    intro c hc t
    obtain ⟨callee, args, ats⟩ := c
    simp only [Call.operands, Array.toList_append, List.mem_append] at hc
    have ha := am args fun x hx => hc x (.inr hx)
    simp only [resolve, ha]
    cases callee with
    | builtin b => rfl
    | value f => simp only []; rw [hc f (.inl (by simp))]
    | invoke r n => simp only []; rw [hc r (.inl (by simp))]
  cases op <;> simp only [Op.operands] at h <;> simp only [execOp]
  case makeFunc fn first cap => 
    simp only [Array.toList_append, List.mem_append] at h
    rw [am first fun x hx => h x (.inl hx), am cap fun x hx => h x (.inr hx)]
  case build t ps => rw [pm ps h]
  case buildSlice t n ps => rw [pm ps h]
  case makeMap t r => rw [om r h]
  case slice t x lo hi mx =>
    simp only [Array.toList_append, List.mem_append] at h
    rw [om lo fun y hy => h y (by simp_all), om hi fun y hy => h y (by simp_all), om mx fun y hy => h y (by simp_all), h x (by simp)]
  case call c => rw [cm c h]
  case go c => rw [cm c h]
  case defer c => rw [cm c h]
  case select cs b =>
    have : (cs.mapM fun s => (do pure { chan := ρ s.chan, send := s.send.map ρ, zero := ← zeroValue s.elem : CommCase } : Sem CommCase)) = (cs.mapM fun s => (do pure { chan := ρ' s.chan, send := s.send.map ρ', zero := ← zeroValue s.elem : CommCase } : Sem CommCase)) := by
      rw [Array.mapM_eq_mapM_toList, Array.mapM_eq_mapM_toList]
      have key : ∀ (l : List SelectCase), (∀ s ∈ l, ρ s.chan = ρ' s.chan ∧ s.send.map ρ = s.send.map ρ') → 
          (l.mapM fun s => (do pure { chan := ρ s.chan, send := s.send.map ρ, zero := ← zeroValue s.elem : CommCase } : Sem CommCase)) = (l.mapM fun s => (do pure { chan := ρ' s.chan, send := s.send.map ρ', zero := ← zeroValue s.elem : CommCase } : Sem CommCase)) := by
        intro l
        induction l with
        | nil => intro _; rfl
        | cons s l ih =>
          intro hl
          rw [List.mapM_cons, List.mapM_cons, ih (fun s hs => hl s (by simp [hs])), (hl s (by simp)).1, (hl s (by simp)).2]
      rw [key]
      intro s hs
      refine ⟨h s.chan ?_, om s.send fun y hy => h y ?_⟩
      · simp only [Array.toList_flatMap, List.mem_flatMap]; exact ⟨s, hs, by simp⟩
      · simp only [Array.toList_flatMap, List.mem_flatMap]; exact ⟨s, hs, by simp; exact .inr (by simpa using hy)⟩
    rw [this]
  all_goals first
    | rfl
    | (simp only [List.mem_cons, List.not_mem_nil, or_false, forall_eq_or_imp, forall_eq] at h; simp only [h])
end Go.Proofs.Ytabidhoaginokaa.Vc
