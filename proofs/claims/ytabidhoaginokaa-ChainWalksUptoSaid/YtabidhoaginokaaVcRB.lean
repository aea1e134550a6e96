/-
  WHAT THE BOUND OF AN '..UptoSaid' GIVES.
-/
import Derived.Test.YtabidhoaginokaaVcR
import Derived.Test.YtabidhoaginokaaRows
namespace Go.Proofs.Ytabidhoaginokaa.Vc
open Go Go.Proofs
set_option linter.unusedVariables false

theorem bulk_pos {H : Type} (d : DataW H) : 1 ≤ Rows.uptoBulk d := by
  cases d with
  | lit l => cases l <;> simp [Rows.uptoBulk]
  | _ => simp [Rows.uptoBulk]
theorem bulk_part {H : Type} {d : DataW H} : ∀ {l : List (DataW H)}, d ∈ l → Rows.uptoBulk d ≤ Rows.uptoBulkAll l
  | x :: r, h => by
    simp only [Rows.uptoBulkAll]
    rcases List.mem_cons.1 h with e | e
    · subst e; omega
    · have := bulk_part e; omega
theorem bulk_len {H : Type} : ∀ (l : List (DataW H)), l.length ≤ Rows.uptoBulkAll l
  | [] => by simp [Rows.uptoBulkAll]
  | x :: r => by have := bulk_pos x; have := bulk_len r; simp only [Rows.uptoBulkAll, List.length_cons]; omega
theorem bulk_elems {H : Type} (elems spare : List (DataW H)) : Rows.uptoBulkAll elems + 1 ≤ Rows.uptoBulk (.slice elems spare) := by
  simp only [Rows.uptoBulk]; omega
theorem bulk_bound {H : Type} {l : List (DataW H)} (hk : Rows.uptoSmall H l = true) : Rows.uptoBulkAll l ≤ 2 ^ 20 := of_decide_eq_true hk

/-- Rows of cells, put together. -/
theorem rows_eq {α : Type} {k : Nat} {g : Nat → List α} : ∀ (n : Nat) (vs : List α), vs.length = n * k → (∀ i, i < n → (vs.drop (i * k)).take k = g i) → vs = (List.range n).flatMap g
  | 0, vs, hl, _ => by simpa using hl
  | n + 1, vs, hl, h => by
    have hnk : (n + 1) * k = n * k + k := Nat.succ_mul n k
    have h1 := rows_eq (k := k) (g := g) n (vs.take (n * k)) (by rw [List.length_take]; omega) fun i hi => by
      have : i * k + k ≤ n * k := by rw [← Nat.succ_mul]; exact Nat.mul_le_mul_right _ hi
      rw [List.drop_take, List.take_take, show min k (n * k - i * k) = k by omega]
      exact h i (by omega)
    have h2 := h n (by omega)
    rw [List.take_of_length_le (by simp; omega)] at h2
    rw [List.range_succ, List.flatMap_append, ← h1]
    simp [← h2]
end Go.Proofs.Ytabidhoaginokaa.Vc
