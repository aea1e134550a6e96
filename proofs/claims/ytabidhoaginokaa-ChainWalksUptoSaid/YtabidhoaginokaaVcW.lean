/-
  MORE LEAVES: equalities, a slice of a slice.
-/
import Derived.Test.YtabidhoaginokaaVcU
namespace Go.Proofs.Ytabidhoaginokaa.Vc
open Go
set_option linter.unusedVariables false
set_option linter.unusedSimpArgs false

section
variable {h : Heap} {P : Program} {t : TypeId} {x y : Operand} {K : Value → Heap → Prop}

theorem eq_sem {a b : Value} {r : Bool} (hg : eqGuard .eql t x y a b = pure ()) (hb : binOp .eql t a b = (do pure (.bool (← Op.equal t a b)))) (he : ∀ J : Bool → Heap → Prop, J r h → semH P (Op.equal t a b) h J) (k : K (.bool r) h) :
    semH P (binOpG .eql t x y a b) h K := by
  unfold binOpG
  rw [hg, hb]
  simp only [semH_bind', semH_pure]
  exact he _ k
theorem ne_sem {a b : Value} {r : Bool} (hg : eqGuard .neq t x y a b = pure ()) (hb : binOp .neq t a b = (do pure (.bool (!(← Op.equal t a b))))) (he : ∀ J : Bool → Heap → Prop, J r h → semH P (Op.equal t a b) h J) (k : K (.bool (!r)) h) :
    semH P (binOpG .neq t x y a b) h K := by
  unfold binOpG
  rw [hg, hb]
  simp only [semH_bind', semH_pure]
  exact he _ k

theorem equal_slice_nil {e : TypeId} {p : Option Addr} {n c n' c' : Nat} {J : Bool → Heap → Prop} (ht : P.underlying t = some (.slice e)) (k : J p.isNone h) : semH P (Op.equal t (.slice p n c) (.slice none n' c')) h J := by
  unfold Op.equal Op.maxDepth Op.equalIn
  rw [semH_bind', semH_underlying ht]
  cases p with
  | none => exact k
  | some a => exact k
theorem equal_ptr_nil {e : TypeId} {p : Option Addr} {J : Bool → Heap → Prop} (ht : P.underlying t = some (.pointer e)) (k : J p.isNone h) : semH P (Op.equal t (.pointer p) (.pointer none)) h J := by
  unfold Op.equal Op.maxDepth Op.equalIn
  rw [semH_bind', semH_underlying ht]
  cases p with
  | none => exact k
  | some a => exact k
theorem equal_func_nil {ps rs : Array TypeId} {vr : Bool} {f : Fn} {a b : Array Value} {J : Bool → Heap → Prop} (ht : P.underlying t = some (.func ps rs vr)) (k : J false h) : semH P (Op.equal t (.func f a b) .nilFunc) h J := by
  unfold Op.equal Op.maxDepth Op.equalIn
  rw [semH_bind', semH_underlying ht]
  exact k
theorem equal_iface_nil {ms : Array (String × TypeId)} {u : TypeId} {v : Value} {J : Bool → Heap → Prop} (ht : P.underlying t = some (.interface ms)) (k : J false h) : semH P (Op.equal t (.iface u v) .nilIface) h J := by
  unfold Op.equal Op.maxDepth Op.equalIn
  rw [semH_bind', semH_underlying ht]
  exact k
theorem equal_nil_nil {ms : Array (String × TypeId)} {J : Bool → Heap → Prop} (ht : P.underlying t = some (.interface ms)) (k : J true h) : semH P (Op.equal t .nilIface .nilIface) h J := by
  unfold Op.equal Op.maxDepth Op.equalIn
  rw [semH_bind', semH_underlying ht]
  exact k

theorem slice_nil_sem {e : TypeId} {p : Option Addr} {n c n' c' : Nat} (ht : P.underlying t = some (.slice e)) (k : K (.bool p.isNone) h) : semH P (binOpG .eql t x y (.slice p n c) (.slice none n' c')) h K :=
  eq_sem rfl rfl (fun J j => equal_slice_nil ht j) k
theorem ptr_nil_sem {e : TypeId} {p : Option Addr} (ht : P.underlying t = some (.pointer e)) (k : K (.bool p.isNone) h) : semH P (binOpG .eql t x y (.pointer p) (.pointer none)) h K :=
  eq_sem rfl (by cases p <;> rfl) (fun J j => equal_ptr_nil ht j) k
theorem ptr_nnil_sem {e : TypeId} {p : Option Addr} (ht : P.underlying t = some (.pointer e)) (k : K (.bool (!p.isNone)) h) : semH P (binOpG .neq t x y (.pointer p) (.pointer none)) h K :=
  ne_sem rfl (by cases p <;> rfl) (fun J j => equal_ptr_nil ht j) k
theorem func_nil_sem {ps rs : Array TypeId} {vr : Bool} {f : Fn} {a b : Array Value} (ht : P.underlying t = some (.func ps rs vr)) (k : K (.bool false) h) : semH P (binOpG .eql t x y (.func f a b) .nilFunc) h K :=
  eq_sem rfl rfl (fun J j => equal_func_nil ht j) k
theorem iface_nil_sem {ms : Array (String × TypeId)} {u : TypeId} {v : Value} (ht : P.underlying t = some (.interface ms)) (k : K (.bool false) h) : semH P (binOpG .eql t x y (.iface u v) .nilIface) h K :=
  eq_sem rfl rfl (fun J j => equal_iface_nil ht j) k
theorem nil_nil_sem {ms : Array (String × TypeId)} {v : Value} (ht : P.underlying t = some (.interface ms)) (k : K (.bool true) h) : semH P (binOpG .eql t x (.const v) .nilIface .nilIface) h K :=
  eq_sem (by unfold eqGuard; simp) rfl (fun J j => equal_nil_nil ht j) k

/-- s[lo:]. -/
theorem slice_lo_sem {e : TypeId} {i : TypeInfo} {p : Option Addr} {n c lo : Nat} (ht : P.underlying t = some (.slice e)) (hi : P.info? e = some i) (hlo : lo ≤ n) (hc : n ≤ c)
    (k : K (.slice (if c = lo then p else p.map (·.add (lo * i.size))) (n - lo) (c - lo)) h) : semH P (Instr.sliceAt t (.slice p n c) (some (.int .i64 (lo : Int))) none none) h K := by
  have hsz : P.cellsOf e = i.size := cellsOf_info hi
  unfold Instr.sliceAt
  rw [semH_bind', semH_underlying ht]
  simp only []
  unfold Instr.slice
  rw [semH_bind', semH_underlying ht]
  have hb : Instr.sliceBound (.int .i64 (lo : Int)) n .sliceB = pure lo := by
    unfold Instr.sliceBound
    show (if 0 ≤ (lo : Int) ∧ (lo : Int) ≤ n then pure (lo : Int).toNat else _) = _
    rw [if_pos ⟨by omega, by omega⟩]; rfl
  simp only [semH_bind', Instr.sliceBounds, semH_pure, semH_sizeOf hi, hsz, Option.isSome_none, Bool.false_eq_true, if_false]
  rw [hb]
  simp only [semH_bind', semH_pure, semH_sizeOf hi, hsz]
  exact k
theorem slc_lo {e : TypeId} {k : Nat} {p : Option Addr} {n c lo : Nat} {vs : List Value} (s : SlC h e k p n c vs) (hlo : lo ≤ n) : SlC h e k (if c = lo then p else p.map (·.add (lo * k))) (n - lo) (c - lo) (vs.drop (lo * k)) := by
  obtain ⟨s1, s2, s3⟩ := s
  refine ⟨by omega, by simp [s2, Nat.sub_mul], ?_⟩
  cases p with
  | none => simp only at s3; simp only [Option.map_none, ite_self]; omega
  | some a =>
    obtain ⟨sp, cs, fz, hb, hcs, hv⟩ := s3
    obtain ⟨b, o, q⟩ := a
    simp only at sp; subst sp
    have hlk : lo * k ≤ c * k := Nat.mul_le_mul_right _ (by omega)
    by_cases g : c = lo
    · rw [if_pos g]
      refine ⟨by first | rfl | trivial, cs, fz, hb, by rw [g]; simp; simp only at hcs; omega, fun i hi => ?_⟩
      have : n - lo = 0 := by omega
      rw [this] at hi; omega
    · rw [if_neg g]
      simp only [Option.map_some, add_plain]
      refine ⟨by first | rfl | trivial, cs, fz, hb, by rw [Nat.sub_mul]; simp only at hcs; omega, fun i hi => ?_⟩
      rw [Nat.sub_mul] at hi
      have h2 : lo * k ≤ n * k := Nat.mul_le_mul_right _ hlo
      have := hv (lo * k + i) (by omega)
      simp only at this
      rw [List.getElem?_drop, Nat.add_assoc]; exact this
end
end Go.Proofs.Ytabidhoaginokaa.Vc
