/-
  THE DOCUMENT's OWN ROW OF VERSIONS: Counts, Copy, Put, Prune, Done, Next, Same.
-/
import Derived.Test.YtabidhoaginokaaVcX2
namespace Go.Proofs.Ytabidhoaginokaa
open Go Go.Proofs Go.Proofs.Ytabidhoaginokaa.Vc
set_option linter.unusedVariables false
set_option linter.unusedSimpArgs false
set_option maxRecDepth 100000

theorem rdN {h : Heap} {e : TypeId} {p : Option Addr} {n c : Nat} {l : List Ver} {k : Nat} {R : Int → Prop} (s : VerS h e p n c l) (hk : k < n) (r : ∀ v, l[k]? = some v → R v.1) :
    ∃ (b : Nat), ∃ (o : Nat), p = some { block := b, off := o : Addr } ∧ 0 ≤ (k : Int) ∧ (k : Int) < (n : Int) ∧ ∃ (x : Int), cellH h { block := b, off := o + Int.toNat (k : Int) * 2 : Addr } = some (Value.int IntKind.i64 x) ∧ R x := by
  obtain ⟨b, o, rfl⟩ := SlC.ptr s (by omega)
  obtain ⟨v, hv⟩ : ∃ v, l[k]? = some v := ⟨_, List.getElem?_eq_getElem (by rw [s.len]; exact hk)⟩
  exact ⟨b, o, rfl, by omega, by omega, v.1, by rw [Int.toNat_natCast]; exact s.n hv, r v hv⟩
theorem rdNS {h : Heap} {e : TypeId} {p : Option Addr} {n c : Nat} {l : List Ver} {k : Nat} {R : Int → ByteArray → Prop} (s : VerS h e p n c l) (hk : k < n) (r : ∀ v, l[k]? = some v → R v.1 v.2) :
    ∃ (b : Nat), ∃ (o : Nat), p = some { block := b, off := o : Addr } ∧ 0 ≤ (k : Int) ∧ (k : Int) < (n : Int) ∧ ∃ (x : Int), cellH h { block := b, off := o + Int.toNat (k : Int) * 2 : Addr } = some (Value.int IntKind.i64 x) ∧
      ∃ (t : ByteArray), cellH h { block := b, off := o + Int.toNat (k : Int) * 2 + 1 : Addr } = some (Value.string t) ∧ R x t := by
  obtain ⟨b, o, rfl⟩ := SlC.ptr s (by omega)
  obtain ⟨v, hv⟩ : ∃ v, l[k]? = some v := ⟨_, List.getElem?_eq_getElem (by rw [s.len]; exact hk)⟩
  exact ⟨b, o, rfl, by omega, by omega, v.1, by rw [Int.toNat_natCast]; exact s.n hv, v.2, by rw [Int.toNat_natCast]; exact s.s hv, r v hv⟩
theorem incr (k : Nat) (hk : k ≤ 2 ^ 30) : IntKind.wrap IntKind.i64 ((k : Int) + 1) = ((k + 1 : Nat) : Int) := by rw [wrapI _ (by omega) (by omega)]; omega
theorem one_cells {h : Heap} {e : TypeId} (x : Int) (s : ByteArray) : VerS (h.push (.cells #[.int .i64 x, .string s] e)) e (some ⟨h.size, 0, none⟩) 1 1 [(x, s)] :=
  ⟨Nat.le_refl _, rfl, rfl, #[.int .i64 x, .string s], (e, 0, 0), get_push_eq, by simp, fun i hi => by
    match i, hi with
    | 0, _ => rfl
    | 1, _ => rfl⟩
/-- One more version behind a row of one's own. -/
theorem push36 {h : Heap} {p : Option Addr} {n c : Nat} {l : List Ver} {x : Int} {s : ByteArray} {K : Value → Heap → Prop} {t : TypeId} (hs : VerS h 36 p n c l) (hf : Free h p) (hn : n < 2 ^ 25)
    (k : ∀ h' p' c', Kept (blk p) h h' → VerS h' 36 p' (n + 1) c' (l ++ [(x, s)]) → Free h' p' → (p' = p ∨ ∀ a, p' = some a → h.size ≤ a.block) → K (.slice p' (n + 1) c') h') :
    ∀ (h' : Array Obj), h' = Array.push h (Obj.cells #[Value.int IntKind.i64 x, Value.string s] 36) → semH Try.prog (builtinG Builtin.append #[24, 24] t #[Value.slice p n c, Value.slice (some { block := Array.size h, off := 0 : Addr }) 1 1]) h' K := by
  intro h1 hh
  have k1 : Kept [] h h1 := hh ▸ Kept.push _
  have s1 : VerS h1 36 p n c l := SlC.kept hs k1 (by simp)
  have f1 := hf.kept k1 (by simp)
  have s2 : VerS h1 36 (some ⟨h.size, 0, none⟩) 1 1 [(x, s)] := hh ▸ one_cells x s
  have sz : h1.size = h.size + 1 := by rw [hh]; simp
  refine append_own (i := Try.t36) Try.underlying24 Try.underlying24 (by simp) info36 rfl rfl (by decide) s1 s2 (by omega) (vcells_cell _) f1 ?_
  intro h2 p' c' k2 s3 f3 hor
  refine k h2 p' c' ((k1.of (S := blk p) (by simp)).trans k2 (fun r hr _ => hr)) (by have := s3; rw [← vcells_app] at this; exact this) f3 ?_
  rcases hor with e | g
  · exact .inl e
  · exact .inr fun a ha => by have := g a ha; omega

/-! ### Counts -/
theorem Cut.unique {l : List Ver} {m : Int} {i j : Nat} (a : Cut l m i) (b : Cut l m j) : i = j := by
  rcases Nat.lt_trichotomy i j with g | g | g
  · have hb := b.le
    have := a.high i (Nat.le_refl _) _ (List.getElem?_eq_getElem (by omega))
    have := b.low i g _ (List.getElem?_eq_getElem (by omega)); omega
  · exact g
  · have ha := a.le
    have := b.high j (Nat.le_refl _) _ (List.getElem?_eq_getElem (by omega))
    have := a.low j g _ (List.getElem?_eq_getElem (by omega)); omega
theorem Cut.exists_of {l : List Ver} (r : Rising l) (m : Int) : ∃ i, Cut l m i := by
  induction l with
  | nil => exact ⟨0, by simp, fun k hk => by omega, fun k hk v hv => by simp at hv⟩
  | cons v t ih =>
    have hr := List.pairwise_cons.1 r
    obtain ⟨i, hi⟩ := ih hr.2
    by_cases g : v.1 ≤ m
    · refine ⟨i + 1, by have := hi.le; simp; omega, fun k hk u hu => ?_, fun k hk u hu => ?_⟩
      · cases k with
        | zero => simp at hu; subst hu; exact g
        | succ k => exact hi.low k (by omega) u (by simpa using hu)
      · cases k with
        | zero => omega
        | succ k => exact hi.high k (by omega) u (by simpa using hu)
    · refine ⟨0, by simp, fun k hk => by omega, fun k hk u hu => ?_⟩
      cases k with
      | zero => simp at hu; subst hu; omega
      | succ k =>
        have := hr.1 u (List.mem_of_getElem? (by simpa using hu : t[k]? = some u)); omega

theorem loop54 {p : Option Addr} {n c : Nat} {l : List Ver} {m : Int} {ds : List Deferred} {K : Exit → Fr → List Deferred → Heap → Prop} (hr : Rising l) {i : Nat} (cc : Cut l m i) (hn : n ≤ 2 ^ 26) {h : Heap} (hs : VerS h 36 p n c l)
    (k : ∀ x6, K (.exit 0) (FrL 39 [(0, .slice p n c), (1, .int .i64 m), (5, .int .i64 ((i : Int) - 1)), (6, .int .i64 x6)]) ds h) :
    ∀ (fuel k' : Nat), k' ≤ n → n - k' < fuel →
      LoopN (dn Try.prog M54 none (codeAt (bodyC Try.f54) [1, 1, 0, 1, 0, 0])) fuel (FrL 39 [(0, .slice p n c), (1, .int .i64 m), (5, .int .i64 ((min k' i : Nat) - 1 : Int)), (6, .int .i64 (k' : Nat))]) ds h K
  | 0, k', hk, hf => by omega
  | fuel + 1, k', hk, hf => by
    rw [loopN_succ, vc54_110100]
    have hlen := hs.len
    have hle := cc.le
    refine BIf.intro (fun e => ?_) (fun e => ?_)
    · have e : (k' : Int) < n := by simpa using e
      have next := loop54 hr cc hn hs k fuel (k' + 1) (by omega) (by omega)
      refine rdN hs (by omega) fun v hv => ?_
      rw [incr k' (by omega)]
      refine BIf.intro (fun e1 => ?_) (fun e1 => ?_)
      · have e1 : v.1 ≤ m := by simpa using e1
        have hki : k' < i := by
          apply Classical.byContradiction; intro g
          have := cc.high k' (by omega) v hv; omega
        have hm : ((min (k' + 1) i : Nat) - 1 : Int) = (k' : Int) := by omega
        rw [hm] at next
        refine BIf.intro (fun e2 => ?_) (fun e2 => ?_)
        · rw [kl_normal]; exact next
        · have hk0 : 0 < k' := by have : ¬ ((min k' i : Nat) - 1 : Int) < 0 := by simpa using e2
                                  omega
          refine rdN hs (by omega) fun v' hv' => ?_
          rw [hv] at hv'; cases hv'
          have hb : ((min k' i : Nat) - 1 : Int) = ((k' - 1 : Nat) : Int) := by omega
          rw [hb]
          refine rdN hs (by omega) fun u hu => ?_
          have hlt := hr.lt (i := k' - 1) (j := k') (by omega) hu hv
          refine BIf.pos (by simp; omega) ?_
          rw [kl_normal]; exact next
      · have e1 : ¬ v.1 ≤ m := by simpa using e1
        have hki : ¬ k' < i := by
          intro g; exact e1 (cc.low k' g v hv)
        have hm : ((min (k' + 1) i : Nat) - 1 : Int) = ((min k' i : Nat) - 1 : Int) := by omega
        rw [hm] at next
        rw [kl_normal]; exact next
    · have e : ¬ (k' : Int) < n := by simpa using e
      rw [kl_exit]
      have hm : ((min k' i : Nat) - 1 : Int) = (i : Int) - 1 := by omega
      rw [hm]
      exact k _
theorem call54 {h : Heap} {p : Option Addr} {n c : Nat} {l : List Ver} {m : Int} {Q : Value → Heap → Prop} (hs : VerS h 36 p n c l) (hr : Rising l) (hn : n ≤ 2 ^ 26) {i : Nat} (cc : Cut l m i)
    (k : Q (.int .i64 ((i : Int) - 1)) h) : CallH Try.prog 54 #[.slice p n c, .int .i64 m] h Q := by
  refine call_of_fn (M := M54) (args := [_, _]) Try.func54 rfl rfl (Nat.le_of_ble_eq_true rfl) ?_
  rw [vc54]
  have := loop54 (K := (blockK 0 (seqK (dn Try.prog M54 none (codeAt (bodyC Try.f54) [1, 1, 1])) (exitH Try.prog Try.f54 Q)))) (ds := []) hr cc hn hs (fun x6 => by
    rw [kx_exit, ks_normal, vc54_111, ret54]; exact k) (n + 1) 0 (by omega) (by omega)
  have hm : ((min 0 i : Nat) - 1 : Int) = -1 := by omega
  rw [hm] at this
  exact loop_of _ this

/-! ### Copy -/
theorem loop55 {p : Option Addr} {n c : Nat} {l : List Ver} {ds : List Deferred} {K : Exit → Fr → List Deferred → Heap → Prop} (hn : n ≤ 2 ^ 25) {h0 : Heap} (hs0 : VerS h0 36 p n c l)
    (k : ∀ h p' c' x4, Kept [] h0 h → VerS h 36 p' n c' l → Free h p' → (∀ a, p' = some a → h0.size ≤ a.block) → K (.exit 0) (FrL 19 [(0, .slice p n c), (3, .slice p' n c'), (4, .int .i64 x4)]) ds h) :
    ∀ (fuel k' : Nat) (h : Heap) (p' : Option Addr) (c' : Nat), k' ≤ n → n - k' < fuel → Kept [] h0 h → VerS h 36 p' k' c' (l.take k') → Free h p' → (∀ a, p' = some a → h0.size ≤ a.block) →
      LoopN (dn Try.prog M55 none (codeAt (bodyC Try.f55) [1, 1, 0, 1, 0, 0])) fuel (FrL 19 [(0, .slice p n c), (3, .slice p' k' c'), (4, .int .i64 (k' : Nat))]) ds h K
  | 0, k', h, p', c', hk, hf, kp, hs, hfr, hnew => by omega
  | fuel + 1, k', h, p', c', hk, hf, kp, hs, hfr, hnew => by
    rw [loopN_succ, vc55_110100]
    have hlen := hs0.len
    have hs1 : VerS h 36 p n c l := SlC.kept hs0 kp (by simp)
    refine BIf.intro (fun e => ?_) (fun e => ?_)
    · have e : (k' : Int) < n := by simpa using e
      refine rdNS hs1 (by omega) fun v hv => ?_
      refine push36 hs hfr (by omega) fun h2 p2 c2 k2 s2 f2 hor => ⟨_, _, _, rfl, ?_⟩
      rw [incr k' (by omega), kl_normal]
      have ht : l.take k' ++ [(v.1, v.2)] = l.take (k' + 1) := by
        rw [List.take_add_one, hv]; rfl
      rw [ht] at s2
      have hkp : Kept [] h0 h2 := kp.trans k2 fun r hr hlt => by
        obtain ⟨a, ha, e⟩ := mem_blk.1 hr
        have := hnew a ha; omega
      refine loop55 hn hs0 k fuel (k' + 1) h2 p2 c2 (by omega) (by omega) hkp s2 f2 ?_
      rcases hor with e | g
      · rw [e]; exact hnew
      · exact fun a ha => Nat.le_trans kp.size (g a ha)
    · have e : ¬ (k' : Int) < n := by simpa using e
      have : k' = n := by omega
      subst this
      rw [kl_exit]
      rw [← hlen, List.take_length, hlen] at hs
      exact k h p' c' _ kp hs hfr hnew
theorem call55 {h : Heap} {p : Option Addr} {n c : Nat} {l : List Ver} {Q : Value → Heap → Prop} (hs : VerS h 36 p n c l) (hn : n ≤ 2 ^ 25)
    (k : ∀ h' p' c', Kept [] h h' → VerS h' 36 p' n c' l → Free h' p' → (∀ a, p' = some a → h.size ≤ a.block) → Q (.slice p' n c') h') : CallH Try.prog 55 #[.slice p n c] h Q := by
  refine call_of_fn (M := M55) (args := [_]) Try.func55 rfl rfl (Nat.le_of_ble_eq_true rfl) ?_
  rw [vc55]
  refine loop_of _ (loop55 hn hs (fun h' p' c' x4 kp s f nw => ?_) (n + 1) 0 h none 0 (by omega) (by omega) (.refl _ _) (SlC.nil _ _ _) Free.none (by simp))
  rw [kx_exit, ks_normal, vc55_111, ret55]
  exact k h' p' c' kp s f nw
end Go.Proofs.Ytabidhoaginokaa
