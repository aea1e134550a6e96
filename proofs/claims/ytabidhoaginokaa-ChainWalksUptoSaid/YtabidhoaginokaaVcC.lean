/-
  'dn' IS SOUND: what it says of a piece of code, the kit's 'Code.wpIn' says of it (for every tape).
-/
import Derived.Test.YtabidhoaginokaaVcB
import Derived.RangeFuncCalls
namespace Go.Proofs.Ytabidhoaginokaa.Vc
open Go
set_option linter.unusedVariables false
set_option linter.unusedSimpArgs false

/-! ### shapes tell the value itself -/
theorem shape1_out {d : TypeDesc} {v : Value} {K : Value → Prop} (h : shape1 d v K) : K v := by
  unfold shape1 at h
  split at h
  · obtain ⟨n, rfl, x⟩ := h; exact x
  · obtain ⟨n, rfl, x⟩ := h; exact x
  · obtain ⟨n, rfl, x⟩ := h; exact x
  · obtain ⟨n, rfl, x⟩ := h; exact x
  · obtain ⟨p, n, c, rfl, x⟩ := h; exact x
  · obtain ⟨n, rfl, x⟩ := h; exact x
  · exact h
theorem shapeL_out : ∀ {ds : List TypeDesc} {vs acc : List Value} {K : List Value → Prop}, shapeL ds vs acc K → K (acc.reverse ++ vs)
  | [], [], acc, K, h => by simpa [shapeL] using h
  | d :: ds, v :: vs, acc, K, h => by
    have := shapeL_out (shape1_out h)
    simpa using this
  | [], v :: vs, acc, K, h => by simp [shapeL] at h
  | d :: ds, [], acc, K, h => by simp [shapeL] at h
theorem shapeE_out : ∀ {ds : List TypeDesc} {acc : List Value} {K : List Value → Prop}, shapeE ds acc K → ∃ l, K l
  | [], acc, K, h => ⟨_, h⟩
  | d :: ds, acc, K, h => by
    cases d <;> simp only [shapeE] at h <;> first
      | (obtain ⟨a, b, c, x⟩ := h; exact shapeE_out x)
      | (obtain ⟨a, x⟩ := h; exact shapeE_out x)
theorem shapeP1_out {P : Program} {t : TypeId} {v : Value} {K : Value → Prop} (h : shapeP1 P t v K) : K v := by
  unfold shapeP1 at h
  split at h
  · split at h
    · have := shapeL_out h; simpa using this
    · obtain ⟨l, rfl, x⟩ := shapeE_out h; exact x
  · split at h
    · have := shapeL_out h; simpa using this
    · obtain ⟨l, rfl, x⟩ := shapeE_out h; exact x
  · exact shape1_out h
  · exact h
theorem someT_out {P : Program} {t : TypeId} {K : Value → Prop} (h : someT P t K) : ∃ v, K v := by
  unfold someT at h
  split at h
  · obtain ⟨a, x⟩ := h; exact ⟨_, x⟩
  · obtain ⟨a, x⟩ := h; exact ⟨_, x⟩
  · obtain ⟨a, x⟩ := h; exact ⟨_, x⟩
  · obtain ⟨a, x⟩ := h; exact ⟨_, x⟩
  · obtain ⟨a, b, c, x⟩ := h; exact ⟨_, x⟩
  · obtain ⟨a, x⟩ := h; exact ⟨_, x⟩
  · obtain ⟨l, x⟩ := shapeE_out h; exact ⟨_, x⟩
  · obtain ⟨l, x⟩ := shapeE_out h; exact ⟨_, x⟩
  · obtain ⟨a, x⟩ := h; exact ⟨_, x⟩
theorem someL_out {P : Program} : ∀ {ts : List TypeId} {acc : List Value} {K : List Value → Prop}, someL P ts acc K → ∃ l, K l
  | [], acc, K, h => ⟨_, h⟩
  | t :: ts, acc, K, h => by obtain ⟨v, x⟩ := someT_out h; exact someL_out x
theorem shapeP_out {P : Program} {t : TypeId} {v : Value} {K : Value → Prop} (h : shapeP P t v K) : K v := by
  unfold shapeP at h
  split at h
  · split at h
    · exact h
    · obtain ⟨l, rfl, x⟩ := someL_out h; exact x
  · exact shapeP1_out h

/-! ### the operations of our own wording -/
section
variable {P : Program} {h : Heap}
theorem semN_value {s : Sem Value} {K : Value → Heap → Prop} {D : Deferred → Heap → Prop} (x : semH P s h K) : semN P (do pure (.value (← s))) h K D :=
  semH_bind P s _ (semH_mono P x fun a h y => y)
theorem semN_unit {s : Sem Unit} {K : Value → Heap → Prop} {D : Deferred → Heap → Prop} (x : semH P s h fun _ h => K undef h) : semN P (do s; pure .skip) h K D :=
  semH_bind P s _ (semH_mono P x fun a h y => y)

theorem nth_eq {α : Type} : ∀ (l : List α) (i : Nat), nth l i = l[i]?
  | [], i => by simp [nth]
  | x :: r, 0 => rfl
  | x :: r, i + 1 => by simp [nth, nth_eq r i]
theorem add_plain (b o n : Nat) : (Addr.mk b o none).add n = ⟨b, o + n, none⟩ := by
  unfold Addr.add; split <;> simp_all
theorem addO_eq (o n : Nat) : addO o n = o + n := by cases n <;> rfl
theorem spot_none {a : Addr} (h : a.spot.isNone = true) : a = ⟨a.block, a.off, none⟩ := by
  cases a with
  | mk b o s => cases s with
    | none => rfl
    | some s => simp at h

theorem load_cells {b o : Nat} : ∀ (ds : List TypeDesc) (i : Nat) (acc : List Value) (K : List Value → Prop), loadL h b o ds i acc K →
    ∃ vs : List Value, vs.length = ds.length ∧ (∀ j, j < ds.length → cellH h ⟨b, o + (i + j), none⟩ = vs[j]?) ∧ K (acc.reverse ++ vs)
  | [], i, acc, K, x => ⟨[], rfl, by simp, by simpa [loadL] using x⟩
  | d :: ds, i, acc, K, x => by
    have key : ∃ v, cellH h ⟨b, o + i, none⟩ = some v ∧ loadL h b o ds (i + 1) (v :: acc) K := by
      cases d <;> simp only [loadL, addO_eq] at x <;> first
        | (obtain ⟨a1, a2, a3, e, x⟩ := x; exact ⟨_, e, x⟩)
        | (obtain ⟨a1, e, x⟩ := x; exact ⟨_, e, x⟩)
    obtain ⟨v, e, x⟩ := key
    obtain ⟨vs, hl, hc, k⟩ := load_cells ds (i + 1) (v :: acc) K x
    refine ⟨v :: vs, by simp [hl], fun j hj => ?_, by simpa using k⟩
    cases j with
    | zero => simpa using e
    | succ j =>
      have := hc j (by simpa using hj)
      simpa [Nat.add_assoc, Nat.add_comm 1 j] using this

theorem loadCellsFrom_sem {b o : Nat} : ∀ (n i : Nat) (acc : Array Value) (vs : List Value) (K : Array Value → Heap → Prop), vs.length = n → (∀ j, j < n → cellH h ⟨b, o + (i + j), none⟩ = vs[j]?) →
    K (acc ++ vs.toArray) h → semH P (loadCellsFrom ⟨b, o, none⟩ i n acc) h K
  | 0, i, acc, vs, K, hl, hc, k => by
    obtain rfl : vs = [] := by simpa using hl
    simpa [loadCellsFrom, semH, pure] using k
  | n + 1, i, acc, vs, K, hl, hc, k => by
    cases vs with
    | nil => simp at hl
    | cons v vs =>
      have h0 := hc 0 (by omega)
      unfold loadCellsFrom
      refine semH_bind P (load _) _ ?_
      refine ⟨v, by simpa [add_plain] using h0, ?_⟩
      refine loadCellsFrom_sem n (i + 1) (acc.push v) vs K (by simpa using hl) (fun j hj => ?_) (by simpa using k)
      have := hc (j + 1) (by omega)
      simpa [Nat.add_assoc, Nat.add_comm 1 j] using this

theorem isAgg_run {t : TypeId} {K : Bool → Heap → Prop} {d : TypeDesc} (hd : P.underlying t = some d) (k : K (match d with | .struct _ | .array _ _ => true | _ => false) h) : semH P (isAgg t) h K := by
  unfold isAgg
  refine semH_bind P (underlying t) _ ?_
  unfold underlying
  refine semH_bind P program _ ?_
  simp only [program, semH, hd]
  cases d <;> exact k
theorem sizeOf_run {t : TypeId} {K : Nat → Heap → Prop} {i : TypeInfo} (hi : P.info? t = some i) (k : K i.size h) : semH P (sizeOf t) h K := by
  unfold sizeOf
  refine semH_bind P (typeInfo t) _ ?_
  unfold typeInfo
  refine semH_bind P program _ ?_
  simp only [program, semH, hi]
  exact k
theorem info_of_underlying {t : TypeId} {d : TypeDesc} (hd : P.underlying t = some d) : ∃ i, P.info? t = some i := by
  unfold Program.underlying at hd
  cases hi : P.info? t with
  | none => simp [hi] at hd
  | some i => exact ⟨i, rfl⟩
theorem cellsOf_info {t : TypeId} {i : TypeInfo} (hi : P.info? t = some i) : P.cellsOf t = i.size := by simp [Program.cellsOf, hi]
end

end Go.Proofs.Ytabidhoaginokaa.Vc
