/-
  errors.Is between error numbers; Num; act.
-/
import Derived.Test.YtabidhoaginokaaVcX6
import Derived.Stop.Asserts
import Derived.WalkKit
namespace Go.Proofs.Ytabidhoaginokaa
open Go Go.Proofs Go.Proofs.Ytabidhoaginokaa.Vc
set_option linter.unusedVariables false
set_option linter.unusedSimpArgs false
set_option maxRecDepth 100000

theorem call_of_run {P : Program} {f : FuncId} {args : Array Value} {v : Value} {h : Heap} {Q : Value → Heap → Prop} (hr : ∀ w, ∃ w', (callFunc f args).run P w = .ok (.value v) w' ∧ w'.heap = w.heap ∧ Outer w w') (q : Q v h) : CallH P f args h Q := by
  intro w hw
  obtain ⟨w', h1, h2, h3⟩ := hr w
  exact .inl ⟨v, w', h1, by rw [h2, hw]; exact q, h3⟩
theorem assert_lacks {P : Program} {asserted xT t : TypeId} {want : Array (String × TypeId)} {i j : TypeInfo} {v z : Value} {h : Heap} {K : Value → Heap → Prop} (hu : P.underlying asserted = some (.interface want)) (hi : P.info? t = some i) (hj : P.info? asserted = some j) (hz : j.zero = some z) (hl : (lacking want i.methods).isEmpty = false)
    (k : K (.tuple #[z, .bool false]) h) : semH P (Instr.typeAssert (.iface t v) xT asserted true) h K := by
  obtain ⟨m, hm⟩ := missingMethod_some (want := want) (got := i.methods) (by intro e; rw [e] at hl; cases hl)
  unfold Instr.typeAssert
  rw [semH_bind', semH_underlying hu]
  simp only [semH_bind', semH_typeInfo hi, hm, if_true, semH_zeroValue hj hz, semH_pure]
  exact k
theorem info92 : Try.prog.info? 92 = some Try.t92 := by kernel_rfl
theorem info117 : Try.prog.info? 117 = some Try.t117 := by kernel_rfl
theorem info120 : Try.prog.info? 120 = some Try.t120 := by kernel_rfl
theorem info122 : Try.prog.info? 122 = some Try.t122 := by kernel_rfl
theorem eqErr {h : Heap} {x y : Operand} {a b : Int} {K : Value → Heap → Prop} (k : K (.bool (a == b)) h) : semH Try.prog (binOpG .eql 50 x y (.iface 92 (.int .i64 a)) (.iface 92 (.int .i64 b))) h K := by
  refine eq_sem (r := a == b) rfl rfl (fun J j => ?_) k
  unfold Op.equal Op.maxDepth Op.equalIn
  rw [semH_bind', semH_underlying Try.underlying50]
  simp only []
  rw [if_neg (by simp), semH_bind', semH_typeInfo info92]
  rw [if_neg (by simp [Try.t92])]
  unfold Op.equalIn
  rw [semH_bind', semH_underlying Try.underlying92]
  exact j

/-- The type's handle. -/
theorem call52 {h : Heap} {v : Value} {Q : Value → Heap → Prop} (q : Q (.iface 115 (.agg #[typeHandle Try.prog 92])) h) : CallH Try.prog 52 #[.iface 92 v] h Q := by
  refine call_of_run (fun w => ⟨w, ?_, rfl, Outer.refl w⟩) q
  rw [run_callFunc_extern Try.func52 (e := Extern.ReflectliteType.typeOf) (by kernel_rfl) (by kernel_rfl) (by kernel_rfl) (by kernel_rfl)]
  have : (Extern.ReflectliteType.typeOf #[.iface 92 v]).run Try.prog w = .ok (.iface 115 (.agg #[typeHandle Try.prog 92])) w := by kernel_rfl
  rw [this]; rfl
theorem meth115 {h : Heap} {v : Value} {K : FuncId × Value → Heap → Prop} (k : K (76, v) h) : semH Try.prog (method (Try.prog.types.size + Made.depth) 115 v "Comparable") h K := by
  have : semH Try.prog (method (Try.prog.types.size + Made.depth) 115 v "Comparable") h K = K (76, v) h := by kernel_rfl
  rw [this]; exact k
theorem call76 {h : Heap} {Q : Value → Heap → Prop} (q : Q (.bool true) h) : CallH Try.prog 76 #[.agg #[typeHandle Try.prog 92]] h Q := by
  refine call_of_run (fun w => ⟨w, ?_, rfl, Outer.refl w⟩) q
  have hr : (Extern.ReflectliteType.method (fun t => do Extern.Rtype.noPackHeld "Comparable" t; pure (.bool (← typeInfo t).comparable)) #[.agg #[typeHandle Try.prog 92]]).run Try.prog w = .ok (.bool true) w := by kernel_rfl
  rw [run_callFunc_extern Try.func76 (e := Extern.ReflectliteType.method (fun t => do Extern.Rtype.noPackHeld "Comparable" t; pure (.bool (← typeInfo t).comparable))) (by kernel_rfl) (by kernel_rfl) (by kernel_rfl) (by kernel_rfl), hr]
  rfl
theorem invokeComparable {h : Heap} {Q : Value → Heap → Prop} (q : Q (.bool true) h) : InvokeH Try.prog (.iface 115 (.agg #[typeHandle Try.prog 92])) "Comparable" [] h Q := by
  unfold InvokeH
  exact meth115 (call76 q)

/-- errors.is of two error numbers. -/
theorem call53 {h : Heap} {a b : Int} {Q : Value → Heap → Prop} (q : Q (.bool (a == b)) h) : CallH Try.prog 53 #[.iface 92 (.int .i64 a), .iface 92 (.int .i64 b), .bool true] h Q := by
  refine call_of_fn (M := M53) (args := [_, _, _]) Try.func53 rfl rfl (Nat.le_of_ble_eq_true rfl) ?_
  rw [vc53]
  refine loop_of 1 ?_
  rw [loopN_succ, vc53_100]
  refine BIf.pos rfl ?_
  refine eqErr ⟨_, rfl, ?_⟩
  refine BIf.intro (fun e => ?_) (fun e => ?_)
  · rw [kl_ret, kx_ret, ret53]; rw [e] at q; exact q
  · rw [e] at q
    refine assert_lacks Try.underlying117 info92 info117 rfl (by kernel_rfl) ⟨_, _, rfl, ?_⟩
    refine BIf.neg rfl ?_
    refine assert_lacks Try.underlying120 info92 info120 rfl (by kernel_rfl) ⟨_, _, rfl, ?_⟩
    refine BIf.neg rfl ?_
    refine assert_lacks Try.underlying122 info92 info122 rfl (by kernel_rfl) ⟨_, _, rfl, ?_⟩
    refine BIf.neg rfl ?_
    rw [kl_ret, kx_ret, ret53]; exact q
theorem call42 {h : Heap} {a b : Int} {Q : Value → Heap → Prop} (q : Q (.bool (a == b)) h) : CallH Try.prog 42 #[.iface 92 (.int .i64 a), .iface 92 (.int .i64 b)] h Q := by
  refine call_of_fn (M := M42) (args := [_, _]) Try.func42 rfl rfl (Nat.le_of_ble_eq_true rfl) ?_
  rw [vc42]
  refine iface_nil_sem Try.underlying50 ⟨_, rfl, BIf.neg rfl ?_⟩
  refine iface_nil_sem Try.underlying50 ⟨_, rfl, BIf.neg rfl ?_⟩
  refine call52 (invokeComparable ⟨_, rfl, ?_⟩)
  exact call53 ⟨_, rfl, q⟩

/-- Num of an error number within. -/
theorem loop26 {h : Heap} {a : Int} {ds : List Deferred} {K : Exit → Fr → List Deferred → Heap → Prop} (ha : 1 ≤ a) (ha' : a ≤ 24) (k : ∀ x4, K (.exit 0) (FrL 26 [(0, .iface 92 (.int .i64 a)), (3, .int .i64 a), (4, .int .i64 x4)]) ds h) :
    ∀ (fuel k' : Nat), 1 ≤ k' → k' ≤ 25 → 25 - k' < fuel →
      LoopN (dn Try.prog M26 none (codeAt (bodyC Try.f26) [1, 1, 1, 0, 1, 0, 0])) fuel (FrL 26 [(0, .iface 92 (.int .i64 a)), (3, .int .i64 (if a < k' then a else 0)), (4, .int .i64 (k' : Nat))]) ds h K
  | 0, k', h1, h2, hf => by omega
  | fuel + 1, k', h1, h2, hf => by
    rw [loopN_succ, vc26_1110100]
    refine BIf.intro (fun e => ?_) (fun e => ?_)
    · have e : (k' : Int) ≤ 24 := by simpa using e
      have next := loop26 ha ha' k fuel (k' + 1) (by omega) (by omega) (by omega)
      refine call42 ⟨_, rfl, ?_⟩
      rw [incr k' (by omega)]
      refine BIf.intro (fun e1 => ?_) (fun e1 => ?_)
      · have e1 : a = k' := by simpa using e1
        rw [if_neg (by omega)]
        refine BIf.neg (by simp) ?_
        rw [if_pos (by omega), e1] at next
        rw [kl_normal]; rw [e1]; exact next
      · have e1 : ¬ a = k' := by intro g; simp [g] at e1
        have : (if a < ((k' + 1 : Nat) : Int) then a else 0) = (if a < (k' : Int) then a else 0) := by
          by_cases g : a < k'
          · rw [if_pos (by omega), if_pos g]
          · rw [if_neg (by omega), if_neg g]
        rw [this] at next
        rw [kl_normal]; exact next
    · have e : ¬ (k' : Int) ≤ 24 := by simpa using e
      rw [kl_exit, if_pos (by omega)]
      exact k _
theorem call26 {h : Heap} {a : Int} {Q : Value → Heap → Prop} (ha : 1 ≤ a) (ha' : a ≤ 24) (q : Q (.int .i64 a) h) : CallH Try.prog 26 #[.iface 92 (.int .i64 a)] h Q := by
  refine call_of_fn (M := M26) (args := [_]) Try.func26 rfl rfl (Nat.le_of_ble_eq_true rfl) ?_
  rw [vc26]
  refine iface_nil_sem Try.underlying50 ⟨_, rfl, BIf.neg rfl ?_⟩
  have := loop26 (K := blockK 0 (seqK (dn Try.prog M26 none (codeAt (bodyC Try.f26) [1, 1, 1, 1])) (exitH Try.prog Try.f26 Q))) (h := h) (ds := []) ha ha' (fun x4 => by
    rw [kx_exit, ks_normal, vc26_1111]
    refine BIf.neg (by simp; omega) ?_
    refine call42 ⟨_, rfl, ?_⟩
    refine BIf.neg (by simp; omega) ?_
    rw [ret26]; exact q) 25 1 (by omega) (by omega) (by omega)
  rw [if_neg (by omega)] at this
  exact loop_of _ this
theorem call26n {h : Heap} {Q : Value → Heap → Prop} (q : Q (.int .i64 0) h) : CallH Try.prog 26 #[.nilIface] h Q := by
  refine call_of_fn (M := M26) (args := [_]) Try.func26 rfl rfl (Nat.le_of_ble_eq_true rfl) ?_
  rw [vc26]
  exact nil_nil_sem Try.underlying50 ⟨_, rfl, BIf.pos rfl q⟩

/-- act. -/
theorem call9 {h : Heap} {c : Nat} {p : Option Addr} {n cap : Nat} {l : List Ver} {a : ActV} {Q : Value → Heap → Prop} (C : ChainAt h c p n cap l) (hn : n < 2 ^ 24)
    (k : ∀ h' p' n' cap' l', Kept (c :: blk p) h h' → DoneR l a l' → ChainAt h' c p' n' cap' l' → n' ≤ n + 1 → (p' = p ∨ ∀ b, p' = some b → h.size ≤ b.block) → Q (.tuple #[]) h') :
    CallH Try.prog 9 #[.pointer (some ⟨c, 0, none⟩), .agg #[.bool a.1, .int .i64 a.2.1, .string a.2.2]] h Q := by
  refine call_of_fn (M := M9) (args := [_, _]) Try.func9 rfl rfl (Nat.le_of_ble_eq_true rfl) ?_
  rw [vc9]
  intro h1 hh
  have k1 : Kept [] h h1 := hh ▸ Kept.push _
  have hb : h1[h.size]? = some (.cells #[.bool a.1, .int .i64 a.2.1, .string a.2.2] 34 (0, 0)) := by rw [hh]; exact get_push_eq
  have C1 := C.kept k1 (by simp) (by simp)
  have lift : ∀ {p' : Option Addr}, (p' = p ∨ ∀ b, p' = some b → h1.size ≤ b.block) → (p' = p ∨ ∀ b, p' = some b → h.size ≤ b.block) := by
    intro p' hor
    rcases hor with e | g
    · exact .inl e
    · exact .inr fun b hb' => Nat.le_trans k1.size (g b hb')
  refine ⟨a.1, by rw [cell_of hb]; rfl, ?_⟩
  refine BIf.intro (fun e => ?_) (fun e => ?_)
  · refine ⟨a.2.1, by rw [cell_of hb]; rfl, ?_⟩
    refine call33 C1 fun i h2 p' n' cap' cc k2 C2 hor => ⟨_, rfl, ?_⟩
    refine k h2 p' n' cap' _ ((k1.of (S := c :: blk p) (by simp)).trans k2 (fun r hr _ => by simp at hr; simp [hr])) (.inl ⟨e, i, cc, rfl⟩) C2 ?_ (lift hor)
    have e1 := C2.len
    have e2 := C.len
    simp only [List.length_drop] at e1
    omega
  · refine ⟨a.2.1, by rw [cell_of hb]; rfl, a.2.2, by rw [cell_of hb]; rfl, ?_⟩
    refine call34 C1 (by omega) (fun hr => ?_) (fun hnr h2 p' cap' k2 C2 hor => ?_)
    · exact call26 (by omega) (by omega) ⟨_, rfl, k h1 p n cap l (k1.of (by simp)) (.inr (.inl ⟨e, hr, rfl⟩)) C1 (by omega) (.inl rfl)⟩
    · exact call26n ⟨_, rfl, k h2 p' _ cap' _ ((k1.of (S := c :: blk p) (by simp)).trans k2 (fun r hr _ => hr)) (.inr (.inr ⟨e, hnr, rfl⟩)) C2 (Nat.le_refl _) (lift hor)⟩
end Go.Proofs.Ytabidhoaginokaa
