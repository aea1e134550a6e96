/-
  LEAVES: append, slicing, equalities.
-/
import Derived.Test.YtabidhoaginokaaVcS
namespace Go.Proofs.Ytabidhoaginokaa.Vc
open Go
set_option linter.unusedVariables false
set_option linter.unusedSimpArgs false

section
variable {h : Heap} {P : Program}

theorem semH_zeroValue {t : TypeId} {i : TypeInfo} {z : Value} (hi : P.info? t = some i) (hz : i.zero = some z) (J : Value → Heap → Prop) : semH P (zeroValue t) h J = J z h := by
  unfold zeroValue
  rw [semH_bind', semH_typeInfo hi, hz]
  rfl
theorem zeroCells_size (z : Array Value) (n : Nat) : (Builtin.zeroCells z n).size = n * z.size := by simp [Builtin.zeroCells]

/-- What append comes to: the elements written behind, in the same block; or all of them in a new block. -/
theorem append_sem {t ty e x2 : TypeId} {i : TypeInfo} {z : Value} {p p2 : Option Addr} {n c n2 c2 : Nat} {vs ws : List Value} {K : Value → Heap → Prop} {d2 : TypeDesc}
    (ht : P.underlying t = some (.slice e)) (ht2 : P.underlying x2 = some d2) (hd2 : ∀ k, d2 ≠ .int k) (hi : P.info? e = some i) (hz : i.zero = some z) (hzk : z.cells.size = i.size) (hb : i.bytes ≤ 2 ^ 10)
    (s : SlC h e i.size p n c vs) (s2 : SlC h e i.size p2 n2 c2 ws) (hn : n + n2 ≤ 2 ^ 26) (hws : ∀ v ∈ ws, cellV v = true) (hf : n + n2 ≤ c → Free h p)
    (k1 : n + n2 ≤ c → ∀ a, p = some a → K (.slice p (n + n2) c) (putCells h a.block (a.off + n * i.size) ws)) (k1' : p = none → n + n2 ≤ c → K (.slice none 0 0) h)
    (k2 : c < n + n2 → ∀ c' rest, n + n2 ≤ c' → (vs ++ ws ++ rest).length = c' * i.size → K (.slice (some ⟨h.size, 0, none⟩) (n + n2) c') (h.push (.cells (vs ++ ws ++ rest).toArray e))) :
    semH P (builtinG .append #[t, x2] ty #[.slice p n c, .slice p2 n2 c2]) h K := by
  have hsz : P.cellsOf e = i.size := cellsOf_info hi
  have hnoint : (match d2 with | .int _ => true | _ => false) = false := by
    cases d2 <;> first | rfl | exact absurd rfl (hd2 _)
  show semH P (Builtin.append_ #[t, x2] ty #[.slice p n c, .slice p2 n2 c2]) h K
  unfold Builtin.append_
  simp only [List.getElem?_toArray, List.getElem?_cons_zero, List.getElem?_cons_succ, semH_bind', semH_underlying ht, semH_underlying ht2, semH_sizeOf hi, hsz, semH_pure, hnoint]
  rw [if_neg (by simp)]
  simp only [Builtin.lenOf, semH_bind', semH_pure]
  split
  · rename_i hle
    simp only [Bool.not_false, if_true, semH_bind']
    refine firstCells_sem s2 rfl ?_
    cases p with
    | none =>
      simp only [semH_pure]
      have hc := s.2.2; simp only at hc
      have h1 := s.1
      have e1 : n = 0 := by omega
      have e2 : n2 = 0 := by omega
      subst e1; subst e2; subst hc
      exact k1' rfl (by omega)
    | some a =>
      simp only [semH_bind', semH_pure]
      obtain ⟨b, o, sp⟩ := a
      obtain ⟨s1, s3, hsp, cs, ⟨e0, fz⟩, hbk, hcs, hv⟩ := s
      simp only at hsp; subst hsp
      obtain ⟨cs', e', hb'⟩ := hf hle _ rfl
      simp only at hb' hbk hcs
      rw [hbk] at hb'
      cases hb'
      rw [add_plain]
      refine storeCells_sem ws 0 h _ (put_storeL ws (o + n * i.size) 0 hbk ?_ hws ?_)
      · rw [s2.len]
        have : n * i.size + n2 * i.size ≤ c * i.size := by rw [← Nat.add_mul]; exact Nat.mul_le_mul_right _ hle
        omega
      · exact k1 hle _ rfl
  · rename_i hle
    have hlt : c < n + n2 := by omega
    simp only [semH_bind', semH_typeInfo hi]
    have hmax : IntKind.i64.max = 9223372036854775807 := rfl
    rw [if_neg (by rw [hmax]; omega)]
    simp only [semH_bind', semH_pure, semH_typeInfo hi]
    have hcap : Builtin.nextslicecap (n + n2) c * i.bytes ≤ 2 ^ 48 := by
      have := cap_le (n + n2) c hlt
      calc Builtin.nextslicecap (n + n2) c * i.bytes ≤ (4 * (n + n2) + 768) * 2 ^ 10 := Nat.mul_le_mul this hb
        _ ≤ 2 ^ 48 := by omega
    rw [if_neg (by omega)]
    simp only [semH_bind', semH_pure, semH_typeInfo hi]
    refine semH_choose (by rfl) fun tp => ?_
    generalize hcc : (Question.appendCap (n + n2) c e).cut tp = c'
    have hc' : n + n2 ≤ c' := by rw [← hcc]; simp only [Question.cut]; omega
    refine semH_askRoom ?_
    refine firstCells_sem s rfl ?_
    simp only [Bool.not_false, if_true, semH_bind']
    refine firstCells_sem s2 rfl ?_
    rw [semH_zeroValue hi hz]
    show K _ _
    have e : (vs.toArray ++ ws.toArray ++ Builtin.zeroCells z.cells (c' - (n + n2))) = (vs ++ ws ++ (Builtin.zeroCells z.cells (c' - (n + n2))).toList).toArray := by
      apply Array.ext'; simp
    have hl : (vs ++ ws ++ (Builtin.zeroCells z.cells (c' - (n + n2))).toList).length = c' * i.size := by
      simp only [List.length_append, s.len, s2.len, Array.length_toList, zeroCells_size, hzk]
      rw [← Nat.add_mul, ← Nat.add_mul]
      congr 1; omega
    rw [e]
    exact k2 hlt c' _ hc' hl

theorem slc_put {e : TypeId} {k n c n2 : Nat} {a : Addr} {vs ws : List Value} (s : SlC h e k (some a) n c vs) (hw : ws.length = n2 * k) (hc : n + n2 ≤ c) :
    SlC (putCells h a.block (a.off + n * k) ws) e k (some a) (n + n2) c (vs ++ ws) := by
  obtain ⟨s1, s2, sp, cs, fz, hb, hcs, hv⟩ := s
  have hm : n * k + n2 * k ≤ c * k := by rw [← Nat.add_mul]; exact Nat.mul_le_mul_right _ hc
  refine ⟨hc, by simp [s2, hw, Nat.add_mul], sp, _, fz, putCells_eq ws _ hb, by rw [setRow_size]; exact hcs, fun i hi => ?_⟩
  rw [Nat.add_mul] at hi
  rw [setRow_get _ _ _ _ (by omega)]
  by_cases g : i < n * k
  · rw [if_neg (by omega), hv i g, List.getElem?_append_left (by omega)]
  · rw [if_pos (by omega), List.getElem?_append_right (by omega), s2]
    congr 1; omega
theorem slc_new {e : TypeId} {k n c : Nat} {vs rest : List Value} (hl : (vs ++ rest).length = c * k) (hv : vs.length = n * k) (hc : n ≤ c) :
    SlC (h.push (.cells (vs ++ rest).toArray e)) e k (some ⟨h.size, 0, none⟩) n c vs := by
  refine ⟨hc, hv, rfl, _, (e, 0, 0), get_push_eq, by simp only [List.size_toArray]; omega, fun i hi => ?_⟩
  simp only [Nat.zero_add, List.getElem?_toArray]
  rw [List.getElem?_append_left (by omega)]
theorem free_new {e : TypeId} {cs : Array Value} : Free (h.push (.cells cs e)) (some ⟨h.size, 0, none⟩) := by
  intro a ha; cases ha; exact ⟨cs, e, get_push_eq⟩
theorem free_put {b o : Nat} {ws : List Value} {p : Option Addr} (f : Free h p) : Free (putCells h b o ws) p := by
  intro a ha
  obtain ⟨cs, e, hb⟩ := f a ha
  by_cases g : a.block = b
  · subst g; exact ⟨_, e, putCells_eq ws _ hb⟩
  · exact ⟨cs, e, by rw [(putCells_kept b ws h o).get _ (lt_of_get hb) (by simpa using g)]; exact hb⟩
/-- The block of a slice. -/
def blk : Option Addr → List Nat
  | none => []
  | some a => [a.block]
theorem mem_blk {p : Option Addr} {r : Nat} : r ∈ blk p ↔ ∃ a, p = some a ∧ a.block = r := by
  cases p <;> simp [blk, eq_comm]
theorem not_blk {p : Option Addr} {r : Nat} (h : r ∉ blk p) : ∀ a, p = some a → a.block ≠ r := fun a ha e => h (mem_blk.2 ⟨a, ha, e⟩)

/-- Append, in short: what was there is kept but for the slice's own block; the slice is longer. -/
theorem append_own {t ty e x2 : TypeId} {i : TypeInfo} {z : Value} {p p2 : Option Addr} {n c n2 c2 : Nat} {vs ws : List Value} {K : Value → Heap → Prop} {d2 : TypeDesc}
    (ht : P.underlying t = some (.slice e)) (ht2 : P.underlying x2 = some d2) (hd2 : ∀ k, d2 ≠ .int k) (hi : P.info? e = some i) (hz : i.zero = some z) (hzk : z.cells.size = i.size) (hb : i.bytes ≤ 2 ^ 10)
    (s : SlC h e i.size p n c vs) (s2 : SlC h e i.size p2 n2 c2 ws) (hn : n + n2 ≤ 2 ^ 26) (hws : ∀ v ∈ ws, cellV v = true) (hf : Free h p)
    (k : ∀ h' p' c', Kept (blk p) h h' → SlC h' e i.size p' (n + n2) c' (vs ++ ws) → Free h' p' → (p' = p ∨ ∀ a, p' = some a → h.size ≤ a.block) → K (.slice p' (n + n2) c') h') :
    semH P (builtinG .append #[t, x2] ty #[.slice p n c, .slice p2 n2 c2]) h K := by
  refine append_sem ht ht2 hd2 hi hz hzk hb s s2 hn hws (fun _ => hf) ?_ ?_ ?_
  · rintro hle a rfl
    exact k _ _ _ (putCells_kept _ _ _ _) (slc_put s s2.len hle) (free_put hf) (.inl rfl)
  · rintro rfl hle
    have h1 := s.1; have hc := s.2.2; simp only at hc
    have e1 : n = 0 := by omega
    have e2 : n2 = 0 := by omega
    subst e1; subst e2
    have e3 : vs = [] := by simpa using s.len
    have e4 : ws = [] := by simpa using s2.len
    subst e3; subst e4
    exact k h none 0 (.refl _ _) (SlC.nil h e i.size) Free.none (.inl rfl)
  · intro hlt c' rest hc' hl
    refine k _ _ _ (Kept.of (Kept.push _) (by simp)) ?_ free_new (.inr fun a ha => by cases ha; exact Nat.le_refl _)
    exact slc_new hl (by simp [s.len, s2.len, Nat.add_mul]) hc'
end
end Go.Proofs.Ytabidhoaginokaa.Vc
