/-
  'explore' covers every order that the model may draw.
-/
import Derived.Test.YtabidhoaginokaaVcJ
namespace Go.Proofs.Ytabidhoaginokaa.Vc
open Go
set_option linter.unusedVariables false
set_option linter.unusedSimpArgs false

theorem remove1_perm {x : Nat} : ∀ {l : List Nat}, x ∈ l → l.Perm (x :: remove1 x l)
  | [], h => by simp at h
  | y :: r, h => by
    unfold remove1
    by_cases e : x = y
    · subst e; simp
    · have : (x == y) = false := by simpa using e
      simp only [this, Bool.false_eq_true, if_false]
      have hr : x ∈ r := by
        rcases List.mem_cons.1 h with h | h
        · exact absurd h e
        · exact h
      exact ((remove1_perm hr).cons y).trans (List.Perm.swap x y _)
theorem nodup_perm : ∀ {l l' : List Nat}, l.Nodup → l ⊆ l' → l'.length ≤ l.length → l.Perm l'
  | [], l', _, _, h => by
    have : l' = [] := by simpa using h
    subst this; exact .refl _
  | x :: l, l', hd, hs, h => by
    have hx : x ∈ l' := hs (by simp)
    have p := remove1_perm hx
    rw [List.nodup_cons] at hd
    refine ((nodup_perm hd.2 (fun y hy => ?_) ?_).cons x).trans p.symm
    · rcases List.mem_cons.1 (p.mem_iff.1 (hs (List.mem_cons_of_mem _ hy))) with rfl | h
      · exact absurd hy hd.1
      · exact h
    · have := p.length_eq
      simp at this h
      omega
theorem foldr_and {F : Nat → Prop} : ∀ {l : List Nat}, l.foldr (fun x acc => F x ∧ acc) True → ∀ x ∈ l, F x
  | [], _, x, hx => by simp at hx
  | y :: r, h, x, hx => by
    rcases List.mem_cons.1 hx with rfl | hx
    · exact h.1
    · exact foldr_and h.2 x hx

theorem explore_opsI {P : Program} {ops : List Oper} {pm : List Nat} : ∀ (n : Nat) (rem L : List Nat) (fr : Fr) (ds : List Deferred) (h : Heap) (K : Fr → List Deferred → Heap → Prop),
    rem.length = n → L.Perm rem → rem.Nodup → L.Pairwise (fun x y => (pm.getD x 0).testBit y = false) → explore P ops pm n rem fr ds h K → opsI P ops L fr ds h K
  | 0, rem, L, fr, ds, h, K, hn, hp, hd, hw, x => by
    obtain rfl : rem = [] := by simpa using hn
    obtain rfl : L = [] := by simpa using hp
    exact x
  | n + 1, rem, L, fr, ds, h, K, hn, hp, hd, hw, x => by
    unfold explore at x
    simp only at x
    have step : ∀ y, y ∈ rem → (remove1 y rem).length = n ∧ (remove1 y rem).Nodup := by
      intro y hy
      have p := remove1_perm hy
      refine ⟨?_, ?_⟩
      · have := p.length_eq; simp at this; omega
      · exact (List.nodup_cons.1 (p.nodup_iff.1 hd)).2
    split at x
    · rename_i y hf
      have hy := List.mem_of_find?_eq_some hf
      have hfirst := List.find?_some hf
      have hyr : y ∈ rem := (List.mem_filter.1 hy).1
      cases ho : nth ops y with
      | none => simp only [ho] at x
      | some o =>
        simp only [ho] at x
        obtain ⟨A, B, rfl⟩ := List.append_of_mem (hp.mem_iff.2 hyr)
        have hpm := List.perm_middle.symm.trans hp
        have hAB : (A ++ B).Perm (remove1 y rem) := by
          have := hpm.trans (remove1_perm hyr)
          exact (List.perm_cons y).1 this
        have hwAB : (A ++ B).Pairwise (fun x y => (pm.getD x 0).testBit y = false) := by
          rw [List.pairwise_append] at hw ⊢
          exact ⟨hw.1, (List.pairwise_cons.1 hw.2.1).2, fun a ha b hb => hw.2.2 a ha b (by simp [hb])⟩
        have IH := fun fr ds h => explore_opsI (P := P) (ops := ops) n (remove1 y rem) (A ++ B) fr ds h K (step y hyr).1 hAB (step y hyr).2 hwAB
        have z : opStep P ops o fr ds h fun fr ds h => opsI P ops A fr ds h fun fr ds h => opsI P ops B fr ds h K :=
          opStep_mono x fun fr ds h k => by rw [← opsI_append]; exact IH fr ds h k
        rw [opsI_append]
        have hnd : (A ++ y :: B).Nodup := hp.nodup_iff.2 hd
        have goal := move_front (P := P) (ops := ops) A fr ds h _ (fun i hi => ?_) z
        · refine opsI_mono goal fun fr ds h k => ?_
          simp only [opsI, ho]
          exact k
        · have hir : i ∈ rem := hp.mem_iff.1 (by simp [hi])
          unfold first? at hfirst
          simp only [ho] at hfirst
          have hh := List.all_eq_true.1 hfirst i hir
          have hne : i ≠ y := by
            rintro rfl
            rw [List.nodup_append] at hnd
            exact hnd.2.2 i hi i (by simp) rfl
          have hb : (pm.getD i 0).testBit y = false := (List.pairwise_append.1 hw).2.2 i hi y (by simp)
          have : (i == y) = false := by simpa using hne
          rw [this, hb] at hh
          simp only [Bool.false_or] at hh
          cases hoi : nth ops i with
          | none => simp [hoi] at hh
          | some oi =>
            simp only [hoi, Bool.and_eq_true, Bool.or_eq_true] at hh
            exact ⟨oi, rfl, hh.1, hh.2⟩
    · cases L with
      | nil => have := hp.length_eq; simp at this; omega
      | cons z L =>
        have hz : z ∈ rem := hp.mem_iff.1 (by simp)
        have hready : z ∈ rem.filter (ready? pm rem) := by
          refine List.mem_filter.2 ⟨hz, ?_⟩
          unfold ready?
          refine List.all_eq_true.2 fun y hy => ?_
          rcases List.mem_cons.1 (hp.mem_iff.2 hy) with rfl | hy
          · simp
          · have := (List.pairwise_cons.1 hw).1 y hy
            simp only [this, Bool.not_false, Bool.or_true]
        have f := foldr_and x z hready
        cases ho : nth ops z with
        | none => simp only [ho] at f
        | some o =>
          simp only [ho] at f
          simp only [opsI, ho]
          have hL : L.Perm (remove1 z rem) := (List.perm_cons z).1 (hp.trans (remove1_perm hz))
          exact opStep_mono f fun fr ds h k => explore_opsI n (remove1 z rem) L fr ds h K (step z hz).1 hL (step z hz).2 (List.pairwise_cons.1 hw).2 k

/-! ### the orders that are drawn -/
theorem edges_lt : ∀ (l : List Oper) (k : Nat), edgesOK l k = true → ∀ (i : Nat) (o : Oper), l[i]? = some o → ∀ e ∈ o.after.toList, Region.binds .any e = true → e.on < k + i
  | [], k, _, i, o, h => by simp at h
  | a :: l, k, hk, i, o, h => by
    simp only [edgesOK, Bool.and_eq_true] at hk
    intro e he hb
    cases i with
    | zero =>
      simp at h; subst h
      have := List.all_eq_true.1 hk.1 e he
      simp only [hb, Bool.not_true, Bool.false_or] at this
      simpa [Nat.blt_eq] using this
    | succ i =>
      have := edges_lt l (k + 1) hk.2 i o (by simpa using h) e he hb
      omega


theorem predsB_spec {m : List Nat} {y : Nat} : ∀ {l : List Edge}, (predsB m l).testBit y = true → ∃ e ∈ l, Region.binds .any e = true ∧ (y = e.on ∨ (m.getD e.on 0).testBit y = true)
  | [], h => by simp [predsB] at h
  | e :: r, h => by
    unfold predsB at h
    split at h
    · rename_i hb
      simp only [Nat.testBit_or, Bool.or_eq_true] at h
      rcases h with (h | h) | h
      · exact ⟨e, by simp, hb, .inr h⟩
      · rw [Nat.one_shiftLeft, Nat.testBit_two_pow] at h
        exact ⟨e, by simp, hb, .inl (by simpa using h : e.on = y).symm⟩
      · obtain ⟨e', he, hb, h⟩ := predsB_spec h
        exact ⟨e', by simp [he], hb, h⟩
    · obtain ⟨e', he, hb, h⟩ := predsB_spec h
      exact ⟨e', by simp [he], hb, h⟩
theorem predsL_prefix : ∀ (l : List Oper) (acc : List Nat), ∃ t, predsL l acc = acc ++ t
  | [], acc => ⟨[], by simp [predsL]⟩
  | o :: r, acc => by
    obtain ⟨t, h⟩ := predsL_prefix r (acc ++ [predsB acc o.after.toList])
    exact ⟨predsB acc o.after.toList :: t, by rw [predsL, h]; simp⟩
theorem predsL_spec {y : Nat} : ∀ (l : List Oper) (acc : List Nat) (i : Nat), acc.length ≤ i → ((predsL l acc).getD i 0).testBit y = true →
    ∃ o, l[i - acc.length]? = some o ∧ ∃ e ∈ o.after.toList, Region.binds .any e = true ∧ (y = e.on ∨ ((predsL l acc).getD e.on 0).testBit y = true)
  | [], acc, i, hi, h => by
    simp [predsL, List.getD_eq_getElem?_getD, List.getElem?_eq_none hi] at h
  | o :: r, acc, i, hi, h => by
    unfold predsL at h ⊢
    by_cases e : i = acc.length
    · subst e
      refine ⟨o, by simp, ?_⟩
      obtain ⟨t, ht⟩ := predsL_prefix r (acc ++ [predsB acc o.after.toList])
      rw [ht] at h ⊢
      have h' : (predsB acc o.after.toList).testBit y = true := by
        rw [List.getD_eq_getElem?_getD, List.getElem?_append_left (by simp), List.getElem?_append_right (by simp)] at h
        simpa using h
      obtain ⟨e, he, hb, h⟩ := predsB_spec h'
      refine ⟨e, he, hb, h.imp id fun h => ?_⟩
      by_cases hl : e.on < acc.length
      · rw [List.getD_eq_getElem?_getD] at h ⊢
        rw [List.getElem?_append_left (by simp; omega), List.getElem?_append_left hl]
        exact h
      · rw [List.getD_eq_getElem?_getD, List.getElem?_eq_none (by omega)] at h
        simp at h
    · obtain ⟨o', ho, rest⟩ := predsL_spec r (acc ++ [predsB acc o.after.toList]) i (by simp; omega) h
      refine ⟨o', ?_, rest⟩
      have : i - acc.length = (i - (acc ++ [predsB acc o.after.toList]).length) + 1 := by simp; omega
      rw [this]
      simpa using ho

/-- In a list of places: each stands behind those that it must. -/
def Respects (pm : List Nat) (l : List Nat) : Prop := l.Pairwise fun x y => (pm.getD x 0).testBit y = false

theorem go_lists {ops : Array Oper} (he : edgesOK ops.toList 0 = true) : ∀ (fuel t : Nat) (listed : Array Bool) (acc : List Nat), listed.size = ops.size → (∀ i, i < ops.size → (listed.getD i true = true ↔ i ∈ acc)) → acc.Nodup → (∀ i ∈ acc, i < ops.size) →
    (∀ i ∈ acc, ∀ y, ((predsL ops.toList []).getD i 0).testBit y = true → y ∈ acc) → Respects (predsL ops.toList []) acc.reverse → fuel + acc.length = ops.size →
    (Region.linearise.go .any ops fuel t listed acc).Perm (List.range ops.size) ∧ Respects (predsL ops.toList []) (Region.linearise.go .any ops fuel t listed acc)
  | 0, t, listed, acc, hs, hl, hn, hb, hc, hr, hf => by
    unfold Region.linearise.go
    refine ⟨?_, hr⟩
    have hsub : acc ⊆ List.range ops.size := fun i hi => by simpa using hb i hi
    have hlen : (List.range ops.size).length = acc.length := by simp; omega
    refine (List.reverse_perm acc).trans ?_
    exact nodup_perm hn hsub (by omega)
  | fuel + 1, t, listed, acc, hs, hl, hn, hb, hc, hr, hf => by
    have getD_lt : ∀ {i : Nat}, i < ops.size → listed.getD i false = listed.getD i true := by
      intro i hi
      simp [Array.getD, hs, hi]
    unfold Region.linearise.go
    simp only
    generalize hrs : ((List.range ops.size).filter fun i => !listed.getD i true && ((ops[i]?).map (·.after.all fun e => !Region.binds .any e || listed.getD e.on false)).getD false) = rs
    have hmem : ∀ i, i ∈ rs → i < ops.size ∧ i ∉ acc ∧ ∃ o, ops[i]? = some o ∧ ∀ e ∈ o.after.toList, Region.binds .any e = true → e.on ∈ acc := by
      intro i hi
      rw [← hrs, List.mem_filter] at hi
      obtain ⟨h1, h2⟩ := hi
      have h1 : i < ops.size := by simpa using h1
      simp only [Bool.and_eq_true, Bool.not_eq_true'] at h2
      refine ⟨h1, fun h => ?_, ops[i], by simp [h1], fun e hee hbe => ?_⟩
      · rw [(hl i h1).2 h] at h2; simp at h2
      · have := h2.2
        simp only [Array.getElem?_eq_getElem h1, Option.map_some, Option.getD_some] at this
        rw [Array.all_eq_true_iff_forall_mem] at this
        have := this e (by simpa using hee)
        simp only [hbe, Bool.not_true, Bool.false_or] at this
        have hlt : e.on < ops.size := by
          have := edges_lt ops.toList 0 he i ops[i] (by simp [h1]) e hee hbe
          omega
        exact (hl _ hlt).1 (by rw [← getD_lt hlt]; exact this)
    have hne : rs ≠ [] := by
      obtain ⟨m, hm, hmin⟩ : ∃ m, (m < ops.size ∧ m ∉ acc) ∧ ∀ k, k < m → k ∈ acc := by
        have ex : ∃ m, m < ops.size ∧ m ∉ acc := by
          apply Classical.byContradiction
          intro hno
          have hsub : List.range ops.size ⊆ acc := fun i hi => Classical.byContradiction fun hi' => hno ⟨i, by simpa using hi, hi'⟩
          have := (nodup_perm (List.nodup_range (n := ops.size)) hsub (by simp; omega)).length_eq
          simp at this
          omega
        have ex' : ∃ n, ∃ m, m ≤ n ∧ m < ops.size ∧ m ∉ acc := let ⟨m, h⟩ := ex; ⟨m, m, Nat.le_refl _, h⟩
        obtain ⟨n, hn'⟩ := ex'
        induction n with
        | zero =>
          obtain ⟨m, h0, h1, h2⟩ := hn'
          exact ⟨m, ⟨h1, h2⟩, fun k hk => by omega⟩
        | succ n ih =>
          by_cases h : ∃ m, m ≤ n ∧ m < ops.size ∧ m ∉ acc
          · exact ih h
          · obtain ⟨m, h0, h1, h2⟩ := hn'
            refine ⟨m, ⟨h1, h2⟩, fun k hk => Classical.byContradiction fun hk' => h ⟨k, by omega, by omega, hk'⟩⟩
      intro hnil
      have : m ∈ rs := by
        rw [← hrs, List.mem_filter]
        refine ⟨by simpa using hm.1, ?_⟩
        simp only [Bool.and_eq_true, Bool.not_eq_true', Array.getElem?_eq_getElem hm.1, Option.map_some, Option.getD_some]
        constructor
        · cases h : listed.getD m true with
          | false => rfl
          | true => exact absurd ((hl m hm.1).1 h) hm.2
        · rw [Array.all_eq_true_iff_forall_mem]
          intro e hee
          cases hbe : Region.binds .any e with
          | false => rfl
          | true =>
            have hlt : e.on < m := by
              have := edges_lt ops.toList 0 he m ops[m] (by simp [hm.1]) e (by simpa using hee) hbe
              omega
            have : listed.getD e.on true = true := (hl _ (by omega)).2 (hmin _ hlt)
            simp only [Bool.not_true, Bool.false_or]
            rw [getD_lt (by omega)]; exact this
      rw [hnil] at this; simp at this
    cases hi : rs[t % rs.length]? with
    | none =>
      have : 0 < rs.length := List.length_pos_iff.2 hne
      have := List.getElem?_eq_none_iff.1 hi
      have := Nat.mod_lt t ‹0 < rs.length›
      omega
    | some i =>
      simp only
      obtain ⟨h1, h2, o, ho, h3⟩ := hmem i (List.mem_of_getElem? hi)
      have hpi : ∀ y, ((predsL ops.toList []).getD i 0).testBit y = true → y ∈ acc := by
        intro y hy
        obtain ⟨o', ho', e, hee, hbe, h⟩ := predsL_spec ops.toList [] i (by simp) hy
        have : o' = o := by
          simp only [List.length_nil, Nat.sub_zero, Array.getElem?_toList] at ho'
          rw [ho] at ho'; exact (Option.some.inj ho').symm
        subst this
        have := h3 e hee hbe
        rcases h with rfl | h
        · exact this
        · exact hc _ this y h
      refine go_lists he fuel _ _ (i :: acc) (by simp [hs]) ?_ (List.nodup_cons.2 ⟨h2, hn⟩) ?_ ?_ ?_ (by simp; omega)
      · intro j hj
        by_cases e : j = i
        · subst e
          simp [Array.getD, hs, hj]
        · have : (listed.setIfInBounds i true).getD j true = listed.getD j true := by
            simp [Array.getD, hs, hj, Array.getElem_setIfInBounds, Ne.symm e]
          rw [this, hl j hj]
          simp [e]
      · intro j hj
        rcases List.mem_cons.1 hj with rfl | hj
        · exact h1
        · exact hb j hj
      · intro j hj y hy
        rcases List.mem_cons.1 hj with rfl | hj
        · exact List.mem_cons_of_mem _ (hpi y hy)
        · exact List.mem_cons_of_mem _ (hc j hj y hy)
      · unfold Respects at hr ⊢
        rw [List.reverse_cons, List.pairwise_append]
        refine ⟨hr, by simp, fun x hx y hy => ?_⟩
        obtain rfl : y = i := by simpa using hy
        cases h : ((predsL ops.toList []).getD x 0).testBit y with
        | false => rfl
        | true => exact absurd (hc x (by simpa using hx) y h) h2

/-- The order that is drawn: all of them, each behind those it must. -/
theorem schedule_lists {P : Program} {ops : Array Oper} (h : drawOK P ops = true) (t : Nat) :
    (Region.schedule (P.follows .mixedOrders) ops t).Perm (List.range ops.size) ∧ Respects (predsL ops.toList []) (Region.schedule (P.follows .mixedOrders) ops t) := by
  unfold drawOK at h
  rw [Bool.and_eq_true] at h
  unfold Region.schedule
  rw [if_pos h.2]
  unfold Region.linearise
  exact go_lists h.1 _ _ _ [] (by simp) (fun i hi => by simp [Array.getD, hi]) (by simp) (by simp) (by simp) (by simp [Respects]) (by simp)

/-- In any order. -/
theorem opsI_sound {P : Program} {F : Fence} {Q : Exit → Act → World → Prop} (hF : PlainF F) {ops : Array Oper} (hd : F.round = none ∨ ∀ o ∈ ops.toList, noDefer o = true) {K : Fr → List Deferred → Heap → Prop} (w0 : World) :
    ∀ (l : List Nat) (fr : Fr) (a : Act) (w : World), Fits fr a.tmps → opsI P ops.toList l fr a.defers w.heap K → Outer w0 w →
      (∀ a' w', Reach w0 K a' w' → Q .normal a' w') → wpOpsIn F 0 P ops Q l a w
  | [], fr, a, w, hf, x, hw, hn => hn _ _ ⟨fr, hf, x, hw⟩
  | i :: r, fr, a, w, hf, x, hw, hn => by
    simp only [opsI] at x
    split at x
    · rename_i o ho
      rw [nth_eq, Array.getElem?_toList] at ho
      refine opStep_sound hF ho hf (hd.imp id fun h => h o (by rw [← Array.getElem?_toList] at ho; exact List.mem_of_getElem? ho)) x ?_
      rintro a' w' ⟨fr', hf', y, hw'⟩
      exact opsI_sound hF hd w0 r fr' a' w' hf' y (hw.trans hw') hn
    · exact x.elim
theorem draw_sound {P : Program} {F : Fence} {Q : Exit → Act → World → Prop} (hF : PlainF F) {ops : Array Oper} (hd : F.round = none ∨ ∀ o ∈ ops.toList, noDefer o = true) {K : Fr → List Deferred → Heap → Prop} {fr : Fr} {a : Act} {w w0 : World}
    (hok : drawOK P ops = true) (hf : Fits fr a.tmps) (x : explore P ops.toList (predsL ops.toList []) ops.size (List.range ops.size) fr a.defers w.heap K) (hw : Outer w0 w)
    (hn : ∀ a' w', Reach w0 K a' w' → Q .normal a' w') (t : Nat) : wpOpsIn F 0 P ops Q (Region.schedule (P.follows .mixedOrders) ops t) a w := by
  obtain ⟨h1, h2⟩ := schedule_lists hok t
  exact opsI_sound hF hd w0 _ fr a w hf (explore_opsI _ _ _ fr _ _ K (by simp) h1 List.nodup_range h2 x) hw hn
end Go.Proofs.Ytabidhoaginokaa.Vc
