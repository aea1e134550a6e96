/-
  'opH' comes to the model's own operation.
-/
import Derived.Test.YtabidhoaginokaaVcD
namespace Go.Proofs.Ytabidhoaginokaa.Vc
open Go
set_option linter.unusedVariables false
set_option linter.unusedSimpArgs false

theorem semH_bind' {P : Program} {α β : Type} (s : Sem α) (f : α → Sem β) (h : Heap) (K : β → Heap → Prop) : semH P (s >>= f) h K = semH P s h (fun a h' => semH P (f a) h' K) :=
  propext ⟨semH_of_bind P s f, semH_bind P s f⟩
theorem semH_pure {P : Program} {α : Type} (a : α) (h : Heap) (K : α → Heap → Prop) : semH P (pure a) h K = K a h := rfl
theorem semH_program {P : Program} (h : Heap) (K : Program → Heap → Prop) : semH P program h K = K P h := rfl
theorem semH_underlying {P : Program} {t : TypeId} {d : TypeDesc} (hd : P.underlying t = some d) (h : Heap) (K : TypeDesc → Heap → Prop) : semH P (underlying t) h K = K d h := by
  simp only [underlying, semH_bind', semH_program, hd, semH_pure]
theorem semH_typeInfo {P : Program} {t : TypeId} {i : TypeInfo} (hi : P.info? t = some i) (h : Heap) (K : TypeInfo → Heap → Prop) : semH P (typeInfo t) h K = K i h := by
  simp only [typeInfo, semH_bind', semH_program, hi, semH_pure]
theorem semH_sizeOf {P : Program} {t : TypeId} {i : TypeInfo} (hi : P.info? t = some i) (h : Heap) (K : Nat → Heap → Prop) : semH P (sizeOf t) h K = K (P.cellsOf t) h := by
  simp only [sizeOf, semH_bind', semH_typeInfo hi, semH_pure, cellsOf_info hi]

section
variable {P : Program} {h : Heap} {K : Value → Heap → Prop} {D : Deferred → Heap → Prop} {ρ : Operand → Value}

theorem leaf_sem {s : Sem Value} {t : TypeId} (x : semH P s h fun v h => shapeP P t v fun v => K v h) : semN P (do pure (.value (← s))) h K D :=
  semN_value (semH_mono P x fun v h y => shapeP_out y)

theorem index_addr_sem {t e : TypeId} {p : Option Addr} {n c : Nat} {k' : IntKind} {j : Int} (ht : P.underlying t = some (.slice e)) 
    (he : (P.info? e).isSome = true) (y : ∃ b o, p = some ⟨b, o, none⟩ ∧ 0 ≤ j ∧ j < n ∧ K (.pointer (some ⟨b, o + j.toNat * P.cellsOf e, none⟩)) h) : semH P (Instr.indexAt t (.slice p n c) (.int k' j)) h K := by
  obtain ⟨b, of, rfl, h0, h1, k⟩ := y
  obtain ⟨inf, hinf⟩ := Option.isSome_iff_exists.1 he
  unfold Instr.indexAt
  simp only [asIntOf, semH_bind', semH_pure, semH_underlying ht]
  rw [if_pos ⟨h0, h1⟩]
  simp only [semH_bind', semH_sizeOf hinf, semH_pure, add_plain]
  exact k
theorem field_addr_sem {t : TypeId} {fs : Array Field} {f : Nat} {fl : Field} {a : Addr} (ht : P.underlying t = some (.struct fs)) (hf : fs[f]? = some fl) (ha : a.spot.isNone = true) (hi : (P.info? fl.type).isSome = true) (hc : (P.cellsOf fl.type != 0) = true)
    (y : K (.pointer (some ⟨a.block, addO a.off fl.offset, none⟩)) h) : semH P (Instr.fieldAt t (.pointer (some a)) f) h K := by
  obtain ⟨inf, hinf⟩ := Option.isSome_iff_exists.1 hi
  unfold Instr.fieldAt
  simp only [semH_bind', semH_underlying ht, hf, Instr.sureAddr, semH_pure, fieldPlace, semH_sizeOf hinf]
  rw [if_neg (by simpa using hc)]
  rw [spot_none ha]
  simp only [semH_pure, add_plain]
  rw [addO_eq] at y
  exact y
theorem field_sem {t : TypeId} {fs : Array Field} {f : Nat} {fl : Field} {cs : Array Value} (ht : P.underlying t = some (.struct fs)) (hf : fs[f]? = some fl) (hi : (P.info? fl.type).isSome = true)
    (y : partG P fl.type cs.toList fl.offset fun v => K v h) : semH P (Instr.field t (.agg cs) f) h K := by
  obtain ⟨inf, hinf⟩ := Option.isSome_iff_exists.1 hi
  have hseg : ∀ (o n : Nat) (l : List Value), segOf o n l = (l.drop o).take n := by
    intro o
    induction o with
    | zero => 
      intro n
      induction n with
      | zero => intro l; cases l <;> simp [segOf]
      | succ n ih => intro l; cases l with
        | nil => simp [segOf]
        | cons c l => simp [segOf, ih]
    | succ o ih => intro n l; cases l with
      | nil => simp [segOf]
      | cons c l => simp [segOf, ih]
  unfold Instr.field
  simp only [semH_bind', semH_underlying ht, hf, asAgg, semH_pure, part, isAgg]
  unfold partG at y
  cases hd : P.underlying fl.type with
  | none => rw [hd] at y; exact y.elim
  | some d =>
    have hi' := hinf
    rw [hd] at y
    simp only [semH_underlying hd]
    cases d
    all_goals first
      | (simp only [semH_bind', semH_pure, semH_sizeOf hinf, if_true]
         rw [hseg] at y
         have e : (List.take (P.cellsOf fl.type) (List.drop fl.offset cs.toList)).toArray = cs.extract fl.offset (fl.offset + P.cellsOf fl.type) := by
           apply Array.ext'
           simp
         rw [e] at y
         exact y)
      | (simp only [semH_bind', semH_pure, Bool.false_eq_true, if_false]
         rw [nth_eq] at y
         rw [← Array.getElem?_toList]
         cases hc : cs.toList[fl.offset]? with
         | none => simp [hc] at y
         | some v => simp only [hc] at y ⊢; exact y)
theorem build_struct_sem {t : TypeId} {fs : Array Field} {parts : List (Nat × Value)} {z : List Value} (hz : zeroL P t = some z) (ht : P.underlying t = some (.struct fs)) (hfs : (fs.toList.all fun f => (P.info? f.type).isSome) = true)
    (y : fillG P t parts z fun cs => K (.agg cs.toArray) h) : semH P (Instr.build t parts.toArray) h K := by
  unfold Instr.build
  rw [semH_bind']
  refine zero_sem hz fun v hv => ?_
  simp only [semH_bind', semH_underlying ht]
  refine mapM_fields fs ?_ ?_
  · have hp : ∀ i off e, placeOf P t i = some (off, e) → (fun i => (fs.map fun f => (f.offset, P.cellsOf f.type))[i]?) i = some (off, P.cellsOf e) := by
      intro i off e hpl
      simp only [placeOf, ht] at hpl
      cases hf : fs[i]? with
      | none => simp [hf] at hpl
      | some f => simp only [hf, Option.some.injEq, Prod.mk.injEq] at hpl; obtain ⟨rfl, rfl⟩ := hpl; simp [hf]
    obtain ⟨c, hc, k⟩ := fill_sem hp parts z _ y
    have hv' : v.cells = z.toArray := by rw [← hv]
    simp only [hv']
    have : Instr.fill (fun x => (Array.map (fun f => (f.offset, P.cellsOf f.type)) fs)[x]?) z.toArray parts.toArray.toList = some c := by simpa using hc
    rw [this]
    simpa [semH_pure] using k
  · intro f hf
    have := List.all_eq_true.1 hfs f (by simpa using hf)
    exact Option.isSome_iff_exists.1 this
theorem build_array_sem {t n e : Nat} {parts : List (Nat × Value)} {z : List Value} (hz : zeroL P t = some z) (ht : P.underlying t = some (.array n e)) (he : (P.info? e).isSome = true)
    (y : fillG P t parts z fun cs => K (.agg cs.toArray) h) : semH P (Instr.build t parts.toArray) h K := by
  obtain ⟨inf, hinf⟩ := Option.isSome_iff_exists.1 he
  unfold Instr.build
  rw [semH_bind']
  refine zero_sem hz fun v hv => ?_
  simp only [semH_bind', semH_underlying ht, semH_sizeOf hinf]
  have hp : ∀ i off e', placeOf P t i = some (off, e') → (fun i => some (i * P.cellsOf e, P.cellsOf e)) i = some (off, P.cellsOf e') := by
    intro i off e' hpl
    simp only [placeOf, ht, Option.some.injEq, Prod.mk.injEq] at hpl; obtain ⟨rfl, rfl⟩ := hpl; rfl
  obtain ⟨c, hc, k⟩ := fill_sem hp parts z _ y
  have hv' : v.cells = z.toArray := by rw [← hv]
  simp only [hv']
  rw [hc]
  simpa [semH_pure] using k
theorem rep_eq (z : List Value) (m : Nat) (hm : z.length = m) (h0 : m ≠ 0) : ∀ n, (Array.range (n * m)).map (fun x => z.toArray[x % z.toArray.size]!) = (repL n z).toArray
  | 0 => by simp [repL]
  | n + 1 => by
    have e : repL (n + 1) z = repL n z ++ z := by
      clear hm h0
      induction n with
      | zero => simp [repL]
      | succ n ih => show z ++ repL (n + 1) z = (z ++ repL n z) ++ z; rw [ih, List.append_assoc]
    rw [e]
    have ih := rep_eq z m hm h0 n
    apply Array.ext'
    simp only [Array.toList_map, Array.toList_range, List.toList_toArray]
    have ih' := congrArg Array.toList ih
    simp only [Array.toList_map, Array.toList_range, List.toList_toArray] at ih'
    rw [Nat.succ_mul, List.range_add, List.map_append, ih', List.map_map]
    congr 1
    apply List.ext_getElem
    · simp [hm]
    · intro i h1 h2
      simp only [List.getElem_map, List.getElem_range, Function.comp, List.size_toArray, hm]
      have hi : i < m := by simpa using h1
      have : (n * m + i) % m = i := by rw [Nat.mul_comm, Nat.mul_add_mod]; exact Nat.mod_eq_of_lt hi
      rw [this]
      simp [hm ▸ hi, getElem!_pos, hm, hi]
theorem build_slice_sem {t e len : Nat} {parts : List (Nat × Value)} {z : List Value} (hz : zeroL P e = some z) (ht : P.underlying t = some (.slice e))
    (hg : (decide (len * P.cellsOf e ≤ 2 ^ 24) && z.length == P.cellsOf e && (P.info? e).isSome && P.cellsOf e != 0) = true)
    (y : fillG P t parts (repL len z) fun cs => newH h (.cells cs.toArray e) fun h' => K (.slice (some ⟨h.size, 0, none⟩) len len) h') : semH P (Instr.buildSlice t len parts.toArray) h K := by
  simp only [Bool.and_eq_true, decide_eq_true_eq, beq_iff_eq, bne_iff_ne] at hg
  obtain ⟨⟨⟨h1, h2⟩, he⟩, h3⟩ := hg
  obtain ⟨inf, hinf⟩ := Option.isSome_iff_exists.1 he
  have hp : ∀ i off e', placeOf P t i = some (off, e') → (fun i => some (i * P.cellsOf e, P.cellsOf e)) i = some (off, P.cellsOf e') := by
    intro i off e' hpl
    simp only [placeOf, ht, Option.some.injEq, Prod.mk.injEq] at hpl; obtain ⟨rfl, rfl⟩ := hpl; rfl
  obtain ⟨c, hc, k⟩ := fill_sem hp parts _ _ y
  unfold Instr.buildSlice
  simp only [semH_bind', semH_underlying ht, semH_sizeOf hinf]
  rw [if_neg (by omega)]
  have fin : ∀ zz : Array Value, (Array.range (len * P.cellsOf e)).map (fun x => zz[x % zz.size]!) = (repL len z).toArray →
      semH P (match Instr.fill (fun i => some (i * P.cellsOf e, P.cellsOf e)) ((Array.range (len * P.cellsOf e)).map (fun x => zz[x % zz.size]!)) parts with
        | some cells => do pure (.slice (some (← newRow e cells)) len len)
        | _ => stuck "buildSlice: a part of the wrong size" : Sem Value) h K := by
    intro zz hzz
    rw [hzz]
    have : Instr.fill (fun i => some (i * P.cellsOf e, P.cellsOf e)) (repL len z).toArray parts = some c := hc
    rw [this]
    have k' : newH h (.cells c e) fun h' => K (.slice (some ⟨h.size, 0, none⟩) len len) h' := by simpa using k
    exact k' _ rfl
  by_cases hl : len * P.cellsOf e = 0
  · rw [if_pos hl]
    simp only [semH_pure, semH_bind']
    have hl0 : len = 0 := by
      rcases Nat.mul_eq_zero.1 hl with h | h
      · exact h
      · exact absurd h h3
    subst hl0
    exact fin #[] (by simp [repL])
  · rw [if_neg hl]
    rw [semH_bind']
    refine zero_sem hz fun v hv => ?_
    rw [semH_bind', semH_pure]
    refine fin v.cells ?_
    have hv' : v.cells = z.toArray := by rw [← hv]
    rw [hv']
    exact rep_eq z _ h2 h3 len

theorem convert_int_sem {s d : TypeId} {k k' k'' : IntKind} {n : Int} (hs : P.underlying s = some (.int k'')) (hd : P.underlying d = some (.int k)) (y : K (.int k (k.wrap n)) h) : semH P (convert s d (.int k' n)) h K := by
  unfold convert
  simp only [semH_bind', semH_underlying hs, semH_underlying hd]
  exact y
theorem index_string_sem {t : TypeId} {s : ByteArray} {k : IntKind} {j : Int} (ht : P.underlying t = some .string) (y : 0 ≤ j ∧ ∃ b, s[j.toNat]? = some b ∧ K (.int .u8 b.toNat) h) : semH P (Instr.index t (.string s) (.int k j)) h K := by
  obtain ⟨h0, b, hb, k'⟩ := y
  unfold Instr.index
  simp only [asIntOf, semH_bind', semH_pure, semH_underlying ht, if_pos h0, hb]
  exact k'
theorem eqGuard_sem {op : BinOp} {t : TypeId} {x y : Operand} {a b : Value} {J : Unit → Heap → Prop} (ho : op ≠ .eql) (ho' : op ≠ .neq) (k : J () h) : semH P (eqGuard op t x y a b) h J := by
  unfold eqGuard
  cases op <;> first | exact k | exact absurd rfl ho | exact absurd rfl ho'
theorem quo_sem {k k' : IntKind} {a b : Int} {t : TypeId} (y : Guard (k == k') (b ≠ 0 ∧ K (.int k (k.wrap (a.tdiv b))) h)) : semH P (binOp .quo t (.int k a) (.int k' b)) h K := by
  obtain ⟨hk, h0, z⟩ := y.out
  obtain rfl : k = k' := by simpa using hk
  simp only [binOp]; rw [if_neg (by simp)]; simp only [Op.intDiv]; rw [if_neg h0]; exact z
theorem rem_sem {k k' : IntKind} {a b : Int} {t : TypeId} (y : Guard (k == k') (b ≠ 0 ∧ K (.int k (a.tmod b)) h)) : semH P (binOp .rem t (.int k a) (.int k' b)) h K := by
  obtain ⟨hk, h0, z⟩ := y.out
  obtain rfl : k = k' := by simpa using hk
  simp only [binOp]; rw [if_neg (by simp)]; simp only [Op.intDiv]; rw [if_neg h0]; exact z
theorem shl_sem {k k' : IntKind} {a b : Int} {t : TypeId} (h0 : 0 ≤ b) (y : K (.int k (k.wrap (a * 2 ^ (min b.toNat k.bits)))) h) : semH P (binOp .shl t (.int k a) (.int k' b)) h K := by
  simp only [binOp, Op.shift]; rw [if_neg (by omega)]; exact y
theorem shr_sem {k k' : IntKind} {a b : Int} {t : TypeId} (h0 : 0 ≤ b) (y : K (.int k (a.fdiv (2 ^ (min b.toNat k.bits)))) h) : semH P (binOp .shr t (.int k a) (.int k' b)) h K := by
  simp only [binOp, Op.shift]; rw [if_neg (by omega)]; exact y
theorem binOp_ne {op : BinOp} {t : TypeId} {x y : Operand} {a b : Value} {J : Value → Heap → Prop} (ho : op ≠ .eql) (ho' : op ≠ .neq) (k : semH P (binOp op t a b) h J) : semH P (do eqGuard op t x y a b; binOp op t a b : Sem Value) h J := by
  rw [semH_bind']
  exact eqGuard_sem ho ho' k

theorem len_slice_sem {ts : Array TypeId} {ty t : TypeId} {q : Option Addr} {n c : Nat} (ht : lenT P ts = some (.slice t)) (y : K (.int .i64 n) h) : semH P (Builtin.len_ ts ty #[.slice q n c]) h K := by
  unfold lenT at ht
  split at ht
  · rename_i t0 r hl
    have e0 : ts[0]? = some t0 := by rw [← Array.getElem?_toList, hl]; rfl
    unfold Builtin.len_
    simp only [e0]
    show semH P (Sem.bind (underlying t0) _) h K
    refine semH_bind P _ _ (und_sem ht ?_)
    exact y
  · cases ht
theorem len_string_sem {ts : Array TypeId} {ty : TypeId} {s : ByteArray} (ht : lenT P ts = some .string) (y : K (.int .i64 s.size) h) : semH P (Builtin.len_ ts ty #[.string s]) h K := by
  unfold lenT at ht
  split at ht
  · rename_i t0 r hl
    have e0 : ts[0]? = some t0 := by rw [← Array.getElem?_toList, hl]; rfl
    unfold Builtin.len_
    simp only [e0]
    show semH P (Sem.bind (underlying t0) _) h K
    refine semH_bind P _ _ (und_sem ht ?_)
    exact y
  · cases ht
/-- Every operation but a call of a function value or through an interface. -/
theorem opH_sem {o : Oper} (x : opH P ρ o h K D) (hc : ∀ c, o.op = .call c → ∃ b, c.callee = .builtin b) : semN P (execOp ρ o) h K D := by
  obtain ⟨dst, op, ty, pos, aft, gd⟩ := o
  cases op
  case nilCheck y =>
    simp only [opH] at x
    split at x
    · rename_i p hp
      obtain ⟨b, of, rfl, k⟩ := x
      simp only [execOp, hp]
      exact k
    · rename_i f a b hp; simp only [execOp, hp]; exact x
    · rename_i t v hp; simp only [execOp, hp]; exact x
    · exact x.elim
  case indexAddr t y i =>
    simp only [opH] at x
    split at x
    · rename_i e p n c k j ht hx hi
      obtain ⟨he, x⟩ := x.out
      simp only [execOp, hx, hi]
      exact semN_value (index_addr_sem ht he x)
    · exact x
  case fieldAddr t y f =>
    simp only [opH] at x
    split at x
    · rename_i fs a ht hx
      split at x
      · rename_i fl hf
        obtain ⟨hg, x⟩ := x.out
        simp only [Bool.and_eq_true] at hg
        simp only [execOp, hx]
        exact semN_value (field_addr_sem ht hf hg.1.1 hg.2 hg.1.2 x)
      · exact x.elim
    · exact x.elim
  case index t y i =>
    simp only [opH] at x
    split at x
    · rename_i s k j ht hx hi
      simp only [execOp, hx, hi]
      exact semN_value (index_string_sem ht x)
    · exact leaf_sem x
  case load t a =>
    simp only [opH] at x
    split at x
    · rename_i a' fs ha ht
      obtain ⟨hg, x⟩ := x.out
      simp only [Bool.and_eq_true, decide_eq_true_eq] at hg
      simp only [execOp, ha]
      exact semN_value (loadAt_sem hg.1 ht hg.2 x)
    · rename_i a' n e ha ht
      obtain ⟨hg, x⟩ := x.out
      simp only [Bool.and_eq_true, decide_eq_true_eq] at hg
      simp only [execOp, ha]
      exact semN_value (loadAt_sem hg.1 ht hg.2 x)
    · rename_i a' d hn1 hn2 ha ht
      obtain ⟨hg, x⟩ := x.out
      simp only [execOp, ha]
      refine semN_value (loadAt_sem hg ht ?_ ?_)
      · split <;> first | trivial | exact (hn1 _ rfl).elim | exact (hn2 _ _ rfl).elim
      · split <;> first | exact x | exact (hn1 _ rfl).elim | exact (hn2 _ _ rfl).elim
    · exact x.elim
  case store t a y =>
    simp only [opH] at x
    split at x
    · rename_i a' ha
      obtain ⟨hg, x⟩ := x.out
      simp only [Bool.and_eq_true] at hg
      obtain ⟨inf, hinf⟩ := Option.isSome_iff_exists.1 hg.2
      simp only [execOp, ha]
      exact semN_unit (storeAt_sem hinf hg.1 x)
    · exact x.elim
  case pick c a b =>
    simp only [opH] at x
    split at x
    · rename_i t ht
      simp only [execOp, ht, asBool]
      cases t
      · exact x
      · exact x
    · exact x.elim
  case build t parts =>
    simp only [opH] at x
    split at x
    · rename_i z fs hz ht
      obtain ⟨hg, x⟩ := x.out
      simp only [execOp]
      have := build_struct_sem (h := h) (K := K) hz ht hg x
      refine semN_value ?_
      have e : (parts.map fun (i, x) => (i, ρ x)) = (parts.toList.map fun q => (q.1, ρ q.2)).toArray := by
        apply Array.ext'; simp
      rw [e]; exact this
    · rename_i z n e hz ht
      obtain ⟨hg, x⟩ := x.out
      simp only [execOp]
      have := build_array_sem (h := h) (K := K) hz ht hg x
      refine semN_value ?_
      have e : (parts.map fun (i, x) => (i, ρ x)) = (parts.toList.map fun q => (q.1, ρ q.2)).toArray := by
        apply Array.ext'; simp
      rw [e]; exact this
    · exact x.elim
  case buildSlice t len parts =>
    simp only [opH] at x
    split at x
    · rename_i e ht
      split at x
      · rename_i z hz
        obtain ⟨hg, x⟩ := x.out
        simp only [execOp]
        have := build_slice_sem (h := h) (K := K) hz ht hg x
        refine semN_value ?_
        have e : (parts.map fun (i, x) => (i, ρ x)) = (parts.toList.map fun q => (q.1, ρ q.2)).toArray := by
          apply Array.ext'; simp
        rw [e]; exact this
      · exact x.elim
    · exact x.elim
  case box t y =>
    simp only [opH] at x
    simp only [execOp]
    refine semN_value ?_
    unfold Instr.box
    have := cellsG_out x
    exact newVar_sem (by simpa using this)
  case alloc t =>
    simp only [opH] at x
    split at x
    · rename_i z hz
      simp only [execOp]
      refine semN_value ?_
      unfold Instr.alloc
      rw [semH_bind']
      refine zero_sem hz fun v hv => ?_
      refine newVar_sem ?_
      have : v.cells = z.toArray := by rw [← hv]
      rw [this]; exact x
    · exact x.elim
  case makeMap t r =>
    cases r with
    | none =>
      simp only [opH] at x
      exact x _ rfl
    | some r => exact x
  case makeFunc fn first cap =>
    simp only [opH] at x
    simp only [execOp]
    refine semN_value ?_
    have e1 : first.map ρ = (first.toList.map ρ).toArray := by apply Array.ext'; simp
    have e2 : cap.map ρ = (cap.toList.map ρ).toArray := by apply Array.ext'; simp
    unfold Instr.makeFunc
    rw [e1, e2]; exact x
  case extract t ix =>
    simp only [opH] at x
    split at x
    · rename_i vs ht
      split at x
      · rename_i v hv
        simp only [execOp, ht]
        refine semN_value ?_
        rw [nth_eq] at hv
        have : vs[ix]? = some v := by rw [← Array.getElem?_toList]; exact hv
        simp only [Instr.extract, this]
        exact x
      · exact x.elim
    · exact x.elim
  case field t y f =>
    simp only [opH] at x
    split at x
    · rename_i fs cs ht hx
      split at x
      · rename_i fl hf
        obtain ⟨hg, x⟩ := x.out
        simp only [execOp, hx]
        exact semN_value (field_sem ht hf hg x)
      · exact x.elim
    · exact x.elim
  case lookup t y i ok => exact leaf_sem x
  case mapUpdate t m k y => exact semN_unit x
  case insert t m k y => exact semN_unit x
  case range t y => exact leaf_sem x
  case next it s => exact leaf_sem x
  case typeAssert y t a ok => exact semN_value (semH_mono P x fun v h y => okShape_out (shapeP_out y))
  case slice t y lo hi mx => exact leaf_sem x
  case makeSlice t l c => exact leaf_sem x
  case convert s d y =>
    simp only [opH] at x
    split at x
    · rename_i k1 k2 k3 n hs hd hx
      simp only [execOp, hx]
      exact semN_value (convert_int_sem hs hd x)
    · exact leaf_sem x
  case binOp op t y z t' =>
    simp only [opH] at x
    cases he : eqLeaf P op t with
    | true =>
      simp only [he] at x
      exact leaf_sem x
    | false =>
      simp only [he] at x
      split at x
      · rename_i k a k' b hx hy
        split at x
        · simp only [execOp, hx, hy]
          exact semN_value (binOp_ne (by simp) (by simp) (quo_sem x))
        · simp only [execOp, hx, hy]
          exact semN_value (binOp_ne (by simp) (by simp) (rem_sem x))
        · simp only [execOp, hx, hy]
          exact semN_value (binOp_ne (by simp) (by simp) (shl_sem x.1 x.2))
        · simp only [execOp, hx, hy]
          exact semN_value (binOp_ne (by simp) (by simp) (shr_sem x.1 x.2))
        · exact x
      · split at x
        · refine semN_value (binOp_ne (by simp) (by simp) ?_)
          exact semH_mono P x fun v h y => shapeP_out y
        · exact x
      · split at x
        · refine semN_value (binOp_ne (by simp) (by simp) ?_)
          exact semH_mono P x fun v h y => shapeP_out y
        · exact x
      · split at x
        · exact leaf_sem x
        · exact leaf_sem x
        · exact x.elim
  case call c =>
    obtain ⟨b, hb⟩ := hc c rfl
    obtain ⟨callee, args, ats⟩ := c
    simp only at hb
    subst hb
    have e : args.map ρ = (args.toList.map ρ).toArray := by apply Array.ext'; simp
    cases b
    case append | copy | clear | delete =>
      simp only [opH] at x
      simp only [execOp, resolve, e]
      exact leaf_sem x
    case len =>
      simp only [opH] at x
      split at x
      · rename_i r hr
        simp only [execOp, resolve, e, hr]
        exact leaf_sem x
      · rename_i q n c t hr ht
        simp only [execOp, resolve, e, hr]
        exact semN_value (len_slice_sem ht x)
      · rename_i s hr ht
        simp only [execOp, resolve, e, hr]
        exact semN_value (len_string_sem ht x)
      · exact x
    all_goals exact x
  all_goals exact x
end
end Go.Proofs.Ytabidhoaginokaa.Vc
