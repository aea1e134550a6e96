/-
  Same.
-/
import Derived.Test.YtabidhoaginokaaVcX5
namespace Go.Proofs.Ytabidhoaginokaa
open Go Go.Proofs Go.Proofs.Ytabidhoaginokaa.Vc
set_option linter.unusedVariables false
set_option linter.unusedSimpArgs false
set_option maxRecDepth 100000

theorem ba_beq (s t : ByteArray) : (s == t) = decide (s = t) := by
  cases s with
  | mk a => cases t with
    | mk b =>
      show (a == b) = _
      by_cases g : a = b
      · subst g; simp
      · have : (a == b) = false := by simpa using g
        simp [this, g]
theorem guard36 : Try.prog.eqGuardType Try.prog.depth 36 = false := by kernel_rfl
theorem held36 : Try.prog.stoodInHeld 36 = false := by kernel_rfl
theorem partS {P : Program} {h : Heap} {t : TypeId} {d : TypeDesc} {cs : Array Value} {off : Nat} {v : Value} {J : Value → Heap → Prop} (hd : P.underlying t = some d) (hs : ∀ fs, d ≠ .struct fs) (ha : ∀ n e, d ≠ .array n e) (hv : cs[off]? = some v) (k : J v h) :
    semH P (part t cs off) h J := by
  unfold part
  rw [semH_bind']
  refine isAgg_run hd ?_
  cases d <;> first
    | exact absurd rfl (hs _)
    | exact absurd rfl (ha _ _)
    | (simp only [Bool.false_eq_true, if_false, hv]; exact k)
theorem eqStr {h : Heap} {d : Nat} {x y : ByteArray} {J : Bool → Heap → Prop} (k : J (x == y) h) : semH Try.prog (Op.equalIn (d + 1) 9 (.string x) (.string y)) h J := by
  unfold Op.equalIn
  rw [semH_bind', semH_underlying Try.underlying9]
  exact k
theorem eqInt {h : Heap} {d : Nat} {x y : Int} {J : Bool → Heap → Prop} (k : J (x == y) h) : semH Try.prog (Op.equalIn (d + 1) 3 (.int .i64 x) (.int .i64 y)) h J := by
  unfold Op.equalIn
  rw [semH_bind', semH_underlying Try.underlying3]
  exact k
theorem neqVer {h : Heap} {x y : Operand} {a b : Int} {s t : ByteArray} {K : Value → Heap → Prop} (k : K (.bool (!(decide (a = b) && decide (s = t)))) h) :
    semH Try.prog (binOpG .neq 36 x y (.agg #[.int .i64 a, .string s]) (.agg #[.int .i64 b, .string t])) h K := by
  unfold binOpG eqGuard
  rw [semH_bind', if_neg (by simp)]
  simp only [semH_bind', semH_program, guard36, Bool.not_false, if_true, semH_pure]
  unfold binOp Op.equal Op.maxDepth
  simp only [semH_bind', semH_pure]
  unfold Op.equalIn
  rw [semH_bind', semH_underlying Try.underlying36]
  simp only [semH_bind', semH_program, held36, Bool.false_eq_true, if_false, List.forIn_toArray, List.forIn_cons, List.forIn_nil]
  rw [if_pos (by decide)]
  simp only [semH_bind']
  refine partS Try.underlying3 (by simp) (by simp) rfl ?_
  refine partS Try.underlying3 (by simp) (by simp) rfl ?_
  refine eqInt ?_
  by_cases hab : a = b
  · subst hab
    rw [if_neg (by simp)]
    simp only [semH_pure, semH_bind']
    rw [if_pos (by decide)]
    simp only [semH_bind']
    refine partS Try.underlying9 (by simp) (by simp) rfl ?_
    refine partS Try.underlying9 (by simp) (by simp) rfl ?_
    refine eqStr ?_
    by_cases hst : s = t
    · subst hst
      rw [if_neg (by simp [ba_beq])]
      simp only [semH_pure, semH_bind']
      simpa using k
    · rw [if_pos (by simp [ba_beq, hst])]
      simp only [semH_pure, semH_bind']
      simpa [hst] using k
  · rw [if_pos (by simp [hab])]
    simp only [semH_pure, semH_bind']
    simpa [hab] using k

theorem loop10 {p q : Option Addr} {n c c' : Nat} {l l' : List Ver} {ds : List Deferred} {K : Exit → Fr → List Deferred → Heap → Prop} (hn : n ≤ 2 ^ 26) {h : Heap} {e1 e2 : TypeId} (hs : VerS h e1 p n c l) (hs' : VerS h e2 q n c' l')
    (k1 : l ≠ l' → K .ret (FrL 26 [(4, .bool false)]) ds h)
    (k2 : l = l' → ∀ x5, K (.exit 0) (FrL 26 [(0, .slice p n c), (1, .slice q n c'), (5, .int .i64 x5)]) ds h) :
    ∀ (fuel k' : Nat), k' ≤ n → n - k' < fuel → (l.take k' = l'.take k') →
      LoopN (dn Try.prog M10 none (codeAt (bodyC Try.f10) [1, 1, 0, 1, 0, 0])) fuel (FrL 26 [(0, .slice p n c), (1, .slice q n c'), (5, .int .i64 (k' : Nat))]) ds h K
  | 0, k', hk, hf, ht => by omega
  | fuel + 1, k', hk, hf, ht => by
    rw [loopN_succ, vc10_110100]
    have hlen := hs.len
    have hlen' := hs'.len
    refine BIf.intro (fun e => ?_) (fun e => ?_)
    · have e : (k' : Int) < n := by simpa using e
      refine rdNS hs (by omega) fun v hv => ?_
      refine rdNS hs' (by omega) fun u hu => ?_
      refine neqVer ⟨_, rfl, ?_⟩
      refine BIf.intro (fun e1 => ?_) (fun e1 => ?_)
      · rw [kl_ret]
        refine k1 ?_
        rintro rfl
        rw [hv] at hu; cases hu
        simp at e1
      · rw [incr k' (by omega), kl_normal]
        refine loop10 hn hs hs' k1 k2 fuel (k' + 1) (by omega) (by omega) ?_
        have : v = u := by
          have e2 : v.1 = u.1 ∧ v.2 = u.2 := by simpa using e1
          exact Prod.ext e2.1 e2.2
        rw [List.take_add_one, List.take_add_one, ht, hv, hu, this]
    · have e : ¬ (k' : Int) < n := by simpa using e
      have : k' = n := by omega
      subst this
      rw [kl_exit]
      refine k2 ?_ _
      rw [← hlen, List.take_length, hlen, ← hlen', List.take_length] at ht
      exact ht
open Classical in
theorem call10 {h : Heap} {p q : Option Addr} {n n' c c' : Nat} {l l' : List Ver} {Q : Value → Heap → Prop} {e1 e2 : TypeId} (hs : VerS h e1 p n c l) (hs' : VerS h e2 q n' c' l') (hn : n ≤ 2 ^ 26)
    (k : Q (.bool (decide (l = l'))) h) : CallH Try.prog 10 #[.slice p n c, .slice q n' c'] h Q := by
  refine call_of_fn (M := M10) (args := [_, _]) Try.func10 rfl rfl (Nat.le_of_ble_eq_true rfl) ?_
  rw [vc10]
  have hlen := hs.len
  have hlen' := hs'.len
  refine BIf.intro (fun e => ?_) (fun e => ?_)
  · have : l ≠ l' := by
      rintro rfl
      have : n = n' := by omega
      subst this; simp at e
    simpa [this] using k
  · have e : n = n' := by
      have : (n : Int) = n' := by simpa using e
      omega
    subst e
    refine loop_of _ (loop10 (by omega) hs hs' (fun g => ?_) (fun g x5 => ?_) (n + 1) 0 (by omega) (by omega) rfl)
    · rw [kx_ret, ks_ret, ret10]; simpa [g] using k
    · rw [kx_exit, ks_normal, vc10_111, ret10]; simpa [g] using k
end Go.Proofs.Ytabidhoaginokaa
