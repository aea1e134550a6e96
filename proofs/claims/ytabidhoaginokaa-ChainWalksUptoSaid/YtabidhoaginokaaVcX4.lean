/-
  THE DOCUMENT's OWN ROW OF VERSIONS: Put, Prune, Done, Next.
-/
import Derived.Test.YtabidhoaginokaaVcX3
namespace Go.Proofs.Ytabidhoaginokaa
open Go Go.Proofs Go.Proofs.Ytabidhoaginokaa.Vc
set_option linter.unusedVariables false
set_option linter.unusedSimpArgs false
set_option maxRecDepth 100000

/-- A row that nobody writes. -/
structure RowAt (h : Heap) (p : Option Addr) (n c : Nat) (l : List Ver) : Prop where
  row : VerS h 36 p n c l
  rise : Rising l
  pos : ∀ v ∈ l, 0 ≤ v.1
  few : n ≤ 2 ^ 25
theorem RowAt.kept {h h' : Heap} {S : List Nat} {p : Option Addr} {n c : Nat} {l : List Ver} (r : RowAt h p n c l) (k : Kept S h h') (hp : ∀ b ∈ blk p, b ∉ S) : RowAt h' p n c l :=
  ⟨SlC.kept r.row k fun a ha => hp _ (mem_blk.2 ⟨a, ha, rfl⟩), r.rise, r.pos, r.few⟩
theorem rise_put {l : List Ver} {x : Int} {s : ByteArray} (r : Rising l) (hnr : ¬ Refused l x) : Rising (l ++ [(x, s)]) := by
  refine List.pairwise_append.2 ⟨r, by simp, fun a ha b hb => ?_⟩
  simp at hb; subst hb
  apply Classical.byContradiction
  intro hlt
  refine hnr (.inr ?_)
  obtain ⟨j, hj, rfl⟩ := List.mem_iff_getElem.1 ha
  refine ⟨l[l.length - 1], List.getElem?_eq_getElem (by omega), ?_⟩
  rcases Nat.lt_or_ge j (l.length - 1) with g | g
  · have := r.lt g (List.getElem?_eq_getElem hj) (List.getElem?_eq_getElem (by omega)); simp only at hlt; omega
  · have : j = l.length - 1 := by omega
    subst this; simp only at hlt; omega
theorem pos_put {l : List Ver} {x : Int} {s : ByteArray} (hp : ∀ v ∈ l, 0 ≤ v.1) (hnr : ¬ Refused l x) : ∀ v ∈ l ++ [(x, s)], 0 ≤ v.1 := by
  intro v hv
  rcases List.mem_append.1 hv with hv | hv
  · exact hp v hv
  · simp at hv; subst hv
    apply Classical.byContradiction
    intro hlt; exact hnr (.inl (by simp only at hlt; omega))

/-! ### Put -/
theorem refused_iff {l : List Ver} {x : Int} (r : Rising l) (hx : ¬ x < 0) : Refused l x ↔ ∃ (k : Nat) (v : Ver), l[k]? = some v ∧ x ≤ v.1 := by
  constructor
  · rintro (g | ⟨v, hv, g⟩)
    · exact absurd g hx
    · exact ⟨_, v, hv, g⟩
  · rintro ⟨k, v, hv, g⟩
    have hk := (List.getElem?_eq_some_iff.1 hv).1
    refine .inr ⟨l[l.length - 1], List.getElem?_eq_getElem (by omega), ?_⟩
    rcases Nat.lt_or_ge k (l.length - 1) with q | q
    · have := r.lt q hv (List.getElem?_eq_getElem (by omega)); omega
    · have e : k = l.length - 1 := by omega
      subst e
      rw [List.getElem?_eq_getElem hk] at hv; cases hv; exact g
theorem loop44 {p : Option Addr} {n c : Nat} {l : List Ver} {x : Int} {s : ByteArray} {ds : List Deferred} {K : Exit → Fr → List Deferred → Heap → Prop} (hn : n ≤ 2 ^ 25) {h : Heap} (hs : VerS h 36 p n c l)
    (k1 : (∃ (k : Nat) (v : Ver), l[k]? = some v ∧ x ≤ v.1) → K .ret (FrL 36 [(6, .slice p n c), (7, .int .i64 1)]) ds h)
    (k2 : (¬ ∃ (k : Nat) (v : Ver), l[k]? = some v ∧ x ≤ v.1) → ∀ x8, K (.exit 0) (FrL 36 [(0, .slice p n c), (1, .int .i64 x), (2, .string s), (8, .int .i64 x8)]) ds h) :
    ∀ (fuel k' : Nat), k' ≤ n → n - k' < fuel → (∀ k, k < k' → ∀ v, l[k]? = some v → ¬ x ≤ v.1) →
      LoopN (dn Try.prog M44 none (codeAt (bodyC Try.f44) [1, 1, 0, 1, 0, 0])) fuel (FrL 36 [(0, .slice p n c), (1, .int .i64 x), (2, .string s), (8, .int .i64 (k' : Nat))]) ds h K
  | 0, k', hk, hf, hlo => by omega
  | fuel + 1, k', hk, hf, hlo => by
    rw [loopN_succ, vc44_110100]
    have hlen := hs.len
    refine BIf.intro (fun e => ?_) (fun e => ?_)
    · have e : (k' : Int) < n := by simpa using e
      refine rdN hs (by omega) fun v hv => ?_
      refine BIf.intro (fun e1 => ?_) (fun e1 => ?_)
      · rw [kl_ret]; exact k1 ⟨k', v, hv, by simpa using e1⟩
      · rw [incr k' (by omega), kl_normal]
        refine loop44 hn hs k1 k2 fuel (k' + 1) (by omega) (by omega) fun k hk u hu => ?_
        rcases Nat.lt_or_ge k k' with g | g
        · exact hlo k g u hu
        · have : k = k' := by omega
          subst this; rw [hv] at hu; cases hu; intro g; simp [g] at e1
    · have e : ¬ (k' : Int) < n := by simpa using e
      rw [kl_exit]
      refine k2 ?_ _
      rintro ⟨k, v, hv, g⟩
      have := (List.getElem?_eq_some_iff.1 hv).1
      exact hlo k (by omega) v hv g
theorem call44 {h : Heap} {p : Option Addr} {n c : Nat} {l : List Ver} {x : Int} {s : ByteArray} {Q : Value → Heap → Prop} (r : RowAt h p n c l) (hn : n < 2 ^ 25)
    (k1 : Refused l x → Q (.tuple #[.slice p n c, .int .i64 1]) h)
    (k2 : ¬ Refused l x → ∀ h' p' c', Kept [] h h' → RowAt h' p' (n + 1) c' (l ++ [(x, s)]) → Free h' p' → (∀ a, p' = some a → h.size ≤ a.block) → Q (.tuple #[.slice p' (n + 1) c', .int .i64 0]) h') :
    CallH Try.prog 44 #[.slice p n c, .int .i64 x, .string s] h Q := by
  refine call_of_fn (M := M44) (args := [_, _, _]) Try.func44 rfl rfl (Nat.le_of_ble_eq_true rfl) ?_
  rw [vc44]
  refine BIf.intro (fun e => k1 (.inl (by simpa using e))) (fun e => ?_)
  have hx : ¬ x < 0 := by simpa using e
  refine loop_of _ (loop44 (by omega) r.row (fun g => ?_) (fun g x8 => ?_) (n + 1) 0 (by omega) (by omega) (fun k hk => by omega))
  · rw [kx_ret, ks_ret, ret44]; exact k1 ((refused_iff r.rise hx).2 g)
  · have hnr : ¬ Refused l x := fun q => g ((refused_iff r.rise hx).1 q)
    rw [kx_exit, ks_normal, vc44_111]
    refine call55 r.row (by omega) fun h1 p1 c1 k3 s1 f1 nw => ⟨_, _, _, rfl, ?_⟩
    refine push36 s1 f1 hn fun h2 p2 c2 k4 s2 f2 hor => ⟨_, _, _, rfl, ?_⟩
    rw [ret44]
    have nw2 : ∀ a, p2 = some a → h.size ≤ a.block := by
      rcases hor with e | g
      · rw [e]; exact nw
      · exact fun a ha => Nat.le_trans k3.size (g a ha)
    refine k2 hnr h2 p2 c2 (k3.trans k4 fun b hb hlt => ?_) ⟨s2, rise_put r.rise hnr, pos_put r.pos hnr, by omega⟩ f2 nw2
    obtain ⟨a, ha, e⟩ := mem_blk.1 hb
    have := nw a ha; omega

/-! ### Prune -/
theorem loop43 {p : Option Addr} {n c : Nat} {l : List Ver} {i : Nat} {ds : List Deferred} {K : Exit → Fr → List Deferred → Heap → Prop} (hn : n ≤ 2 ^ 24) {h0 : Heap} (hs0 : VerS h0 36 p n c l) (hr : Rising l) (hi : i < n)
    (k : ∀ h p' c' x8, Kept [] h0 h → VerS h 36 p' (n - i) c' (l.drop i) → Free h p' → (∀ a, p' = some a → h0.size ≤ a.block) → K (.exit 0) (FrL 45 [(0, .slice p n c), (6, .int .i64 (i : Nat)), (7, .slice p' (n - i) c'), (8, .int .i64 x8)]) ds h) :
    ∀ (fuel k' : Nat) (h : Heap) (p' : Option Addr) (c' : Nat), k' ≤ n → n - k' < fuel → Kept [] h0 h → VerS h 36 p' (k' - i) c' ((l.take k').drop i) → Free h p' → (∀ a, p' = some a → h0.size ≤ a.block) →
      LoopN (dn Try.prog M43 none (codeAt (bodyC Try.f43) [1, 1, 1, 1, 0, 1, 0, 0])) fuel (FrL 45 [(0, .slice p n c), (6, .int .i64 (i : Nat)), (7, .slice p' (k' - i) c'), (8, .int .i64 (k' : Nat))]) ds h K
  | 0, k', h, p', c', hk, hf, kp, hs, hfr, hnew => by omega
  | fuel + 1, k', h, p', c', hk, hf, kp, hs, hfr, hnew => by
    rw [loopN_succ, vc43_11110100]
    have hlen := hs0.len
    have hs1 : VerS h 36 p n c l := SlC.kept hs0 kp (by simp)
    refine BIf.intro (fun e => ?_) (fun e => ?_)
    · have e : (k' : Int) < n := by simpa using e
      refine rdN hs1 (by omega) fun v hv => ?_
      refine rdN hs1 (by omega) fun u hu => ?_
      refine BIf.intro (fun e1 => ?_) (fun e1 => ?_)
      · have hge : i ≤ k' := by
          apply Classical.byContradiction; intro g
          have := hr.lt (i := k') (j := i) (by omega) hv hu
          have : v.1 ≥ u.1 := by simpa using e1
          omega
        refine rdNS hs1 (by omega) fun w hw => ?_
        rw [hv] at hw; cases hw
        refine push36 hs hfr (by omega) fun h2 p2 c2 k2 s2 f2 hor => ⟨_, _, _, rfl, ?_⟩
        rw [incr k' (by omega), kl_normal]
        have ht : (l.take k').drop i ++ [(v.1, v.2)] = (l.take (k' + 1)).drop i := by
          rw [List.take_add_one, hv, List.drop_append]
          have : i - (l.take k').length = 0 := by simp; omega
          rw [this]; rfl
        rw [ht] at s2
        have hkp : Kept [] h0 h2 := kp.trans k2 fun r hr' hlt => by
          obtain ⟨a, ha, e⟩ := mem_blk.1 hr'
          have := hnew a ha; omega
        rw [show k' - i + 1 = k' + 1 - i by omega] at s2 ⊢
        refine loop43 hn hs0 hr hi k fuel (k' + 1) h2 p2 c2 (by omega) (by omega) hkp s2 f2 ?_
        rcases hor with e | g
        · rw [e]; exact hnew
        · exact fun a ha => Nat.le_trans kp.size (g a ha)
      · have hlt : k' < i := by
          apply Classical.byContradiction; intro g
          have : ¬ v.1 ≥ u.1 := by intro q; simp [q] at e1
          rcases Nat.lt_or_ge i k' with q | q
          · have := hr.lt q hu hv; omega
          · have : i = k' := by omega
            subst this; rw [hu] at hv; cases hv; omega
        rw [incr k' (by omega), kl_normal]
        have hs2 : VerS h 36 p' (k' + 1 - i) c' ((l.take (k' + 1)).drop i) := by
          have e1 : (l.take k').drop i = [] := by rw [List.drop_eq_nil_iff]; simp; omega
          have e2 : (l.take (k' + 1)).drop i = [] := by rw [List.drop_eq_nil_iff]; simp; omega
          rw [e1] at hs
          rw [e2, show k' + 1 - i = k' - i by omega]; exact hs
        have := loop43 hn hs0 hr hi k fuel (k' + 1) h p' c' (by omega) (by omega) kp hs2 hfr hnew
        rw [show k' + 1 - i = k' - i by omega] at this
        exact this
    · have e : ¬ (k' : Int) < n := by simpa using e
      have : k' = n := by omega
      subst this
      rw [kl_exit]
      rw [← hlen, List.take_length, hlen] at hs
      exact k h p' c' _ kp hs hfr hnew
theorem call43 {h : Heap} {p : Option Addr} {n c : Nat} {l : List Ver} {m : Int} {Q : Value → Heap → Prop} (r : RowAt h p n c l) (hn : n ≤ 2 ^ 24) {i : Nat} (cc : Cut l m i)
    (k : ∀ h' p' n' c', Kept [] h h' → RowAt h' p' n' c' (l.drop (i - 1)) → ((p' = p) ∨ ∀ a, p' = some a → h.size ≤ a.block) → Q (.tuple #[.slice p' n' c', .int .i64 (i - 1 : Nat)]) h') :
    CallH Try.prog 43 #[.slice p n c, .int .i64 m] h Q := by
  refine call_of_fn (M := M43) (args := [_, _]) Try.func43 rfl rfl (Nat.le_of_ble_eq_true rfl) ?_
  rw [vc43]
  have hle := cc.le
  have hlen := r.row.len
  refine call54 r.row r.rise (by omega) cc ⟨_, rfl, ?_⟩
  refine BIf.intro (fun e => ?_) (fun e => ?_)
  · have e : (i : Int) - 1 < 0 := by simpa using e
    have := k h p n c (.refl _ _) (by rw [show i - 1 = 0 by omega, List.drop_zero]; exact r) (.inl rfl)
    rw [show i - 1 = 0 by omega] at this
    exact this
  · have e : ¬ (i : Int) - 1 < 0 := by simpa using e
    have hi : (i : Int) - 1 = ((i - 1 : Nat) : Int) := by omega
    rw [hi]
    have := loop43 (K := blockK 0 (seqK (dn Try.prog M43 none (codeAt (bodyC Try.f43) [1, 1, 1, 1, 1])) (exitH Try.prog Try.f43 Q))) (ds := []) hn r.row r.rise (i := i - 1) (by omega) (fun h' p' c' x8 kp s f nw => by
      rw [kx_exit, ks_normal, vc43_11111, ret43]
      have hw : IntKind.wrap IntKind.i64 ((n : Int) - ((n - (i - 1) : Nat) : Int)) = ((i - 1 : Nat) : Int) := by rw [wrapI _ (by omega) (by omega)]; omega
      rw [hw]
      exact k h' p' _ c' kp ⟨s, r.rise.sublist (List.drop_sublist _ _), fun v hv => r.pos v (List.mem_of_mem_drop hv), by omega⟩ (.inr nw)) (n + 1) 0 h none 0 (by omega) (by omega) (.refl _ _)
      (by simp only [List.take_zero, List.drop_nil, Nat.zero_sub]; exact SlC.nil _ _ _) Free.none (by simp)
    rw [Nat.zero_sub] at this
    exact loop_of _ this
end Go.Proofs.Ytabidhoaginokaa
