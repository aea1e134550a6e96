/-
  ChainWalks: the whole of it.
-/
import Derived.Test.YtabidhoaginokaaVcXE
namespace Go.Proofs.Ytabidhoaginokaa
open Go Go.Proofs Go.Proofs.Ytabidhoaginokaa.Vc
set_option linter.unusedVariables false
set_option linter.unusedSimpArgs false
set_option maxRecDepth 100000

/-- The end: the second walk's row held against what is behind. -/
theorem last3 {h : Heap} {q6 q9 q11 q15 B1 B2 : Nat} {v82 : Value} {Q : Value → Heap → Prop} {po pb : Option Addr} {n co cb : Nat} {l : List Ver} {b : Bool} (hn : n ≤ 2 ^ 26)
    (b15 : h[q15]? = some (.cells #[.slice po n co] 24 (0, 0))) (so : VerS h 36 po n co l) (b11 : h[q11]? = some (.cells #[.slice pb n cb] 24 (0, 0))) (sb : VerS h 36 pb n cb l) (b6 : h[q6]? = some (.cells #[.bool b] 4 (0, 0)))
    (e1 : h[B1]? = some (.deferred (some []))) (e2 : h[B2]? = some (.deferred (some []))) (d : B1 ≠ B2 ∧ q6 ≠ B1 ∧ q6 ≠ B2)
    (k : ∀ h', Kept [q6, B1, B2] h h' → Q (.bool true) h') :
    dn Try.prog M3 none (codeAt (bodyC Try.f3) [1, 1, 1, 1, 1, 1, 1, 1, 1, 1, 1]) (FrL 115 [(6, .pointer (some ⟨q6, 0, none⟩)), (9, .pointer (some ⟨q9, 0, none⟩)), (11, .pointer (some ⟨q11, 0, none⟩)), (15, .pointer (some ⟨q15, 0, none⟩)), (82, v82)])
      [{ target := .collected B2, args := #[] }, { target := .collected B1, args := #[] }] h (exitH Try.prog Try.f3 Q) := by
  rw [vc3_11111111111]
  refine ⟨po, n, co, by rw [cell_of b15]; rfl, pb, n, cb, by rw [cell_of b11]; rfl, ?_⟩
  refine call10 so sb hn ⟨_, rfl, ⟨_, by rw [cell_of b6]; rfl⟩, frozen_of b6 0, fun h1 hh1 => ?_⟩
  have k1 : Kept [q6] h h1 := hh1 ▸ Kept.setCell _ _ _
  have c6 : h1[q6]? = some (.cells #[.bool true] 4 (0, 0)) := by rw [hh1, setCell_eq b6]; simp
  refine exit_collected (k1.some e2 (by simp; omega)) ?_
  have k2 := Kept.setObj (h := h1) B2 (.deferred none)
  refine exit_collected (k2.some (k1.some e1 (by simp; omega)) (by simp; omega)) ?_
  have k3 := Kept.setObj (h := h1.setIfInBounds B2 (.deferred none)) B1 (.deferred none)
  rw [ret3]
  refine ⟨true, ?_, k _ ?_⟩
  · rw [cell_of (k3.some (k2.some c6 (by simp; omega)) (by simp; omega))]; rfl
  · exact ((k1.of (S := [q6, B1, B2]) (by simp)).trans k2 (by simp)).trans k3 (by simp)

/-- The second walk. -/
theorem second3 {h : Heap} {c q q6 q9 q11 B1 : Nat} {Q : Value → Heap → Prop} {p pb : Option Addr} {n cap cb : Nat} {l : List Ver} {b : Bool} (hn : n ≤ 2 ^ 24) (C : ChainAt h c p n cap l)
    (b9 : h[q9]? = some (.cells #[.func (.func 30) #[] #[.pointer (some ⟨q, 0, none⟩)]] 28 (0, 0))) (bq : h[q]? = some (.cells #[.pointer (some ⟨c, 0, none⟩)] 23 (0, 0)))
    (b11 : h[q11]? = some (.cells #[.slice pb n cb] 24 (0, 0))) (sb : VerS h 36 pb n cb l) (b6 : h[q6]? = some (.cells #[.bool b] 4 (0, 0)))
    (e1 : h[B1]? = some (.deferred (some []))) (d6 : q6 ≠ B1)
    (k : ∀ h', Kept [q6, B1] h h' → Q (.bool true) h') :
    dn Try.prog M3 none (codeAt (bodyC Try.f3) [1, 1, 1, 1, 1, 1, 1, 1, 1]) (FrL 115 [(6, .pointer (some ⟨q6, 0, none⟩)), (9, .pointer (some ⟨q9, 0, none⟩)), (11, .pointer (some ⟨q11, 0, none⟩))])
      [{ target := .collected B1, args := #[] }] h (exitH Try.prog Try.f3 Q) := by
  rw [vc3_111111111]
  intro h1 hh1
  have k1 : Kept [] h h1 := hh1 ▸ Kept.push _
  have z1 : h1.size = h.size + 1 := by rw [hh1]; simp
  have b15 : h1[h.size]? = some (.cells #[.slice none 0 0] 24 (0, 0)) := by rw [hh1]; exact get_push_eq
  have C1 := C.kept k1 (by simp) (by simp)
  refine ⟨_, by rw [cell_of (k1.some b9 (by simp))]; rfl, ?_⟩
  unfold rangeG
  refine Guard.intro (by kernel_rfl) fun r hr => ?_
  have k2 : Kept [] h1 ((h1.push (.deferred (some []))).push (.loop r)) := (Kept.push _).trans (Kept.push _) (by simp)
  have bB : ((h1.push (.deferred (some []))).push (.loop r))[h1.size]? = some (.deferred (some [])) := by
    rw [get_push_lt (by simp)]; exact get_push_eq
  have bL : ((h1.push (.deferred (some []))).push (.loop r))[h1.size + 1]? = some (.loop r) := by
    have : (h1.push (.deferred (some []))).size = h1.size + 1 := by simp
    rw [← this]; exact get_push_eq
  have z2 : ((h1.push (.deferred (some []))).push (.loop r)).size = h1.size + 2 := by simp
  generalize ((h1.push (.deferred (some []))).push (.loop r)) = h2 at k2 bB bL z2 ⊢
  have k12 : Kept [] h h2 := k1.trans k2 (by simp)
  have C2 := C1.kept k2 (by simp) (by simp)
  have lc := lt_of_get C.obj
  have lq := lt_of_get bq
  have l9 := lt_of_get b9
  have l11 := lt_of_get b11
  have l6 := lt_of_get b6
  have lB := lt_of_get e1
  have hpl : ∀ x ∈ blk p, x < h.size := fun x hx => C.row.blk_lt x hx
  have W2 := walk2 (h0 := h2) (q15 := h.size) (L := h1.size + 1) (n := n) (pb := pb) (cb := cb) C2 hn (k12.some b11 (by simp)) (k12.some b9 (by simp)) (k12.some bq (by simp)) (by omega) (by omega) (by omega) (fun x hx => by have := hpl x hx; omega) (fun x hx => by have := hpl x hx; omega) hr
  refine call30 W2 (m := n - 0) ⟨.refl _ _, bL, 0, none, 0, ?_, rfl, k2.some b15 (by simp), SlC.nil _ _ _, Free.none, by simp [New]⟩ fun h3 D => ?_
  · refine ⟨by omega, fun k hk => by omega, fun k hk v hv => ?_⟩
    have := C.pos v (List.mem_of_getElem? hv); omega
  · refine ⟨r, D.lrec, by rw [hr.state]; simp, ?_⟩
    obtain ⟨po, co, c15, so, npo⟩ := D.out
    have k3 : Kept [] h h3 := (k12.trans D.kept fun x hx hlt => by simp at hx; omega)
    have k4 := Kept.setObj (h := h3) (h1.size + 1) (.loop { r with state := .exhausted })
    have k34 : Kept [] h (h3.setIfInBounds (h1.size + 1) (.loop { r with state := .exhausted })) := k3.trans k4 fun x hx hlt => by simp at hx; omega
    have z3 := D.kept.size
    rw [hr.pending] at k4 k34 ⊢
    simp only []
    rw [kx_normal, ks_normal]
    refine last3 (n := n) (l := l) (pb := pb) (cb := cb) (po := po) (co := co) (by omega) (k4.some c15 (by simp; omega)) (SlC.kept so k4 fun a ha hm' => ?_) (k34.some b11 (by simp)) (SlC.kept sb k34 (by simp)) (k34.some b6 (by simp)) (k34.some e1 (by simp)) (k4.some (D.kept.some bB (by simp; omega)) (by simp)) (by omega) fun h5 k5 => ?_
    · have := npo a ha; simp at hm'; omega
    · exact k h5 (k34.of (S := [q6, B1]) (by simp) |>.trans k5 fun x hx hlt => by simp at hx ⊢; omega)

theorem call3 {h : Heap} {p0 p1 : Option Addr} {n0 c0 n1 c1 : Nat} {puts acts : List ActV} {stop : Int} {Q : Value → Heap → Prop} (hn0 : n0 ≤ 2 ^ 20) (hn1 : n1 ≤ 2 ^ 20) (s0 : ActS h p0 n0 c0 puts) (s1 : ActS h p1 n1 c1 acts)
    (k : ∀ h', Kept [] h h' → Q (.bool true) h') : CallH Try.prog 3 #[.slice p0 n0 c0, .slice p1 n1 c1, .int .i64 stop] h Q := by
  refine call_of_fn (M := M3) (args := [_, _, _]) Try.func3 rfl rfl (Nat.le_of_ble_eq_true rfl) ?_
  rw [vc3]
  intro h1 hh1 h2 hh2 h3 hh3
  have k1 : Kept [] h h1 := hh1 ▸ Kept.push _
  have k2 : Kept [] h1 h2 := hh2 ▸ Kept.push _
  have k3 : Kept [] h2 h3 := hh3 ▸ Kept.push _
  have z1 : h1.size = h.size + 1 := by rw [hh1]; simp
  have z2 : h2.size = h.size + 2 := by rw [hh2]; simp [z1]
  have z3 : h3.size = h.size + 3 := by rw [hh3]; simp [z2]
  have b4 : h1[h.size]? = some (.cells #[.slice p1 n1 c1] 22 (0, 0)) := by rw [hh1]; exact get_push_eq
  have b5 : h2[h1.size]? = some (.cells #[.int .i64 stop] 3 (0, 0)) := by rw [hh2]; exact get_push_eq
  have b6 : h3[h2.size]? = some (.cells #[.bool false] 4 (0, 0)) := by rw [hh3]; exact get_push_eq
  replace b4 := k3.some (k2.some b4 (by simp)) (by simp)
  replace b5 := k3.some b5 (by simp)
  have k03 : Kept [] h h3 := (k1.trans k2 (by simp)).trans k3 (by simp)
  refine call6 hn0 (SlC.kept s0 k03 (by simp)) fun h4 c p n cap l pr nr cr k4 hc C R hle np npr hcr hap => ⟨_, _, _, _, rfl, ?_⟩
  have z4 : h3.size < h4.size := by have := lt_of_get C.obj; omega
  intro h5 hh5
  have k5 : Kept [] h4 h5 := hh5 ▸ Kept.push _
  have z5 : h5.size = h4.size + 1 := by rw [hh5]; simp
  have b7 : h5[h4.size]? = some (.cells #[.pointer none] 23 (0, 0)) := by rw [hh5]; exact get_push_eq
  refine ⟨⟨_, by rw [cell_of b7]; rfl⟩, frozen_of b7 0, fun h6 hh6 => ?_⟩
  have k6 : Kept [h4.size] h5 h6 := hh6 ▸ Kept.setCell _ _ _
  have z6 : h6.size = h5.size := by rw [hh6, setCell_size]
  replace b7 : h6[h4.size]? = some (.cells #[.pointer (some ⟨c, 0, none⟩)] 23 (0, 0)) := by rw [hh6, setCell_eq b7]; rfl
  have k46 : Kept [] h4 h6 := k5.trans k6 fun x hx hlt => by simp at hx; omega
  refine ⟨_, by rw [cell_of b7]; rfl, ptr_nil_sem Try.underlying23 ⟨_, rfl, BIf.neg rfl ?_⟩⟩
  refine ⟨_, by rw [cell_of b7]; rfl, ?_⟩
  refine call7 fun h7 hh7 => ?_
  have k7 : Kept [] h6 h7 := hh7 ▸ Kept.push _
  have z7 : h7.size = h6.size + 1 := by rw [hh7]; simp
  have bq : h7[h6.size]? = some (.cells #[.pointer (some ⟨c, 0, none⟩)] 23 (0, 0)) := by rw [hh7]; exact get_push_eq
  intro h8 hh8
  have k8 : Kept [] h7 h8 := hh8 ▸ Kept.push _
  have z8 : h8.size = h7.size + 1 := by rw [hh8]; simp
  have b9 : h8[h7.size]? = some (.cells #[.nilFunc] 28 (0, 0)) := by rw [hh8]; exact get_push_eq
  refine Guard.intro rfl ⟨⟨_, by rw [cell_of b9]; rfl⟩, frozen_of b9 0, Guard.intro rfl fun h9 hh9 => ?_⟩
  have k9 : Kept [h7.size] h8 h9 := hh9 ▸ Kept.setCell _ _ _
  have z9 : h9.size = h8.size := by rw [hh9, setCell_size]
  replace b9 : h9[h7.size]? = some (.cells #[.func (.func 30) #[] #[.pointer (some ⟨h6.size, 0, none⟩)]] 28 (0, 0)) := by rw [hh9, setCell_eq b9]; rfl
  have k79 : Kept [] h7 h9 := k8.trans k9 fun x hx hlt => by simp at hx; omega
  have k49 : Kept [] h4 h9 := (k46.trans k7 (by simp)).trans k79 (by simp)
  refine ⟨_, by rw [cell_of b9]; rfl, func_nil_sem Try.underlying28 ⟨_, rfl, BIf.neg rfl ?_⟩⟩
  have b4' := k49.some (k4.some b4 (by simp)) (by simp)
  have b5' := k49.some (k4.some b5 (by simp)) (by simp)
  refine ⟨_, _, _, by rw [cell_of b4']; rfl, _, by rw [cell_of b5']; rfl, ?_⟩
  have hnr : nr = n := by have := R.row.len; have := C.len; omega
  have k09 : Kept [] h h9 := (k03.trans k4 (by simp)).trans k49 (by simp)
  refine call8 (by omega) hn1 (R.kept k49 (by simp)) (SlC.kept s1 k09 (by simp)) fun want behind h10 pw cw pb nb cb run k10 Sw Rb nw nb' => ⟨_, _, _, _, _, _, rfl, ?_⟩
  have z10 := k10.size
  intro h11 hh11 h12 hh12
  have k11 : Kept [] h10 h11 := hh11 ▸ Kept.push _
  have k12 : Kept [] h11 h12 := hh12 ▸ Kept.push _
  have z11 : h11.size = h10.size + 1 := by rw [hh11]; simp
  have z12 : h12.size = h11.size + 1 := by rw [hh12]; simp
  have b10 : h12[h10.size]? = some (.cells #[.slice none 0 0] 24 (0, 0)) := k12.some (by rw [hh11]; exact get_push_eq) (by simp)
  have b11 : h12[h11.size]? = some (.cells #[.slice none 0 0] 24 (0, 0)) := by rw [hh12]; exact get_push_eq
  refine ⟨⟨_, by rw [cell_of b10]; rfl⟩, frozen_of b10 0, fun h13 hh13 => ?_⟩
  have k13 : Kept [h10.size] h12 h13 := hh13 ▸ Kept.setCell _ _ _
  have z13 : h13.size = h12.size := by rw [hh13, setCell_size]
  replace b10 : h13[h10.size]? = some (.cells #[.slice pw want.length cw] 24 (0, 0)) := by rw [hh13, setCell_eq b10]; rfl
  replace b11 := k13.some b11 (by simp; omega)
  refine ⟨⟨_, by rw [cell_of b11]; rfl⟩, frozen_of b11 0, fun h14 hh14 => ?_⟩
  have k14 : Kept [h11.size] h13 h14 := hh14 ▸ Kept.setCell _ _ _
  have z14 : h14.size = h13.size := by rw [hh14, setCell_size]
  replace b11 : h14[h11.size]? = some (.cells #[.slice pb nb cb] 24 (0, 0)) := by rw [hh14, setCell_eq b11]; rfl
  replace b10 := k14.some b10 (by simp; omega)
  intro h15 hh15
  have k15 : Kept [] h14 h15 := hh15 ▸ Kept.push _
  have z15 : h15.size = h14.size + 1 := by rw [hh15]; simp
  have b12 : h15[h14.size]? = some (.cells #[.slice none 0 0] 24 (0, 0)) := by rw [hh15]; exact get_push_eq
  have k1015 : Kept [] h10 h15 := (((k11.trans k12 (by simp)).trans k13 fun x hx hlt => by simp at hx; omega).trans k14 fun x hx hlt => by simp at hx; omega).trans k15 (by simp)
  have k915 : Kept [] h9 h15 := k10.trans k1015 (by simp)
  refine ⟨_, by rw [cell_of (k915.some b9 (by simp))]; rfl, ?_⟩
  unfold rangeG
  refine Guard.intro (by kernel_rfl) fun r hr => ?_
  have k16 : Kept [] h15 ((h15.push (.deferred (some []))).push (.loop r)) := (Kept.push _).trans (Kept.push _) (by simp)
  have bB : ((h15.push (.deferred (some []))).push (.loop r))[h15.size]? = some (.deferred (some [])) := by
    rw [get_push_lt (by simp)]; exact get_push_eq
  have bL : ((h15.push (.deferred (some []))).push (.loop r))[h15.size + 1]? = some (.loop r) := by
    have : (h15.push (.deferred (some []))).size = h15.size + 1 := by simp
    rw [← this]; exact get_push_eq
  have z16 : ((h15.push (.deferred (some []))).push (.loop r)).size = h15.size + 2 := by simp
  generalize ((h15.push (.deferred (some []))).push (.loop r)) = h16 at k16 bB bL z16 ⊢
  have k916 : Kept [] h9 h16 := k915.trans k16 (by simp)
  have k1016 : Kept [] h10 h16 := k1015.trans k16 (by simp)
  have k416 : Kept [] h4 h16 := k49.trans k916 (by simp)
  have k016 : Kept [] h h16 := k09.trans k916 (by simp)
  have C16 := C.kept k416 (by simp) (by simp)
  have c4 := k916.some b4' (by simp)
  have c5 := k916.some b5' (by simp)
  have c6 := k416.some (k4.some b6 (by simp)) (by simp)
  have c7 := k916.some ((k7.trans k79 (by simp)).some b7 (by simp)) (by simp)
  have cq := k916.some (k79.some bq (by simp)) (by simp)
  have c9 := k916.some b9 (by simp)
  have c10 := k16.some (k15.some b10 (by simp)) (by simp)
  have c11 := k16.some (k15.some b11 (by simp)) (by simp)
  have c12 := k16.some b12 (by simp)
  have hcl := lt_of_get C.obj
  have hpl : ∀ x ∈ blk p, x < h4.size := fun x hx => C.row.blk_lt x hx
  have hpn : ∀ x ∈ blk p, h3.size ≤ x := fun x hx => np.mem x hx
  obtain ⟨k0, cc0⟩ := Cut.exists_of C.rise (-1)
  have hCl := C.len
  have W1 := walk1 (h0 := h16) (q12 := h14.size) (L := h15.size + 1) (B := h15.size) (q := h6.size) (r := r) (W := h14.size :: (h15.size + 1) :: c :: blk p) (want := want) (behind := behind) rfl hn1 c4 (SlC.kept s1 k016 (by simp)) c5 c7 c10 cq (by omega) (by omega) (by omega)
    (by simp only [List.mem_cons, not_or]; exact ⟨by omega, by omega, by omega, fun hm => by have := hpn _ hm; omega⟩)
    (by simp only [List.mem_cons, not_or]; exact ⟨by omega, by omega, by omega, fun hm => by have := hpn _ hm; omega⟩)
    (by simp only [List.mem_cons, not_or]; exact ⟨by omega, by omega, by omega, fun hm => by have := hpl _ hm; omega⟩)
    (by simp only [List.mem_cons, not_or]; exact ⟨by omega, by omega, by omega, fun hm => by have := hpl _ hm; omega⟩)
    (by simp only [List.mem_cons, not_or]; exact ⟨by omega, by omega, by omega, fun hm => by have := hpl _ hm; omega⟩)
    (fun x hx => by obtain ⟨a, ha, e⟩ := mem_blk.1 hx; have := SlC.lt s1 a ha; simp only [List.mem_cons, not_or]; exact ⟨by omega, by omega, by omega, fun hm => by have := hpn _ hm; omega⟩)
    (by omega) (fun x hx => by have := hpl x hx; omega) (fun x hx => by have := hpl x hx; omega) hr
  refine call30 W1 (m := 2 * (n1 - 0) + (n - k0)) ⟨.refl _ _, bL, p, n, cap, l, k0, none, 0, [], C16, .inl rfl, c12, SlC.nil _ _ _, Free.none, by simp [New], by simp [blk], run, cc0, rfl, by simp; omega, by simp⟩ fun h17 D => ?_
  obtain ⟨r', hr', hst, hpend⟩ := D.lrec
  obtain ⟨p2, n2, cap2, C2, hp2, hn2⟩ := D.chain
  obtain ⟨po, co, d12, so, npo, hfew⟩ := D.got
  have z17 := D.kept.size
  have k18 := Kept.setObj (h := h17) (h15.size + 1) (.loop { r' with state := .exhausted })
  have np2 : ∀ x ∈ blk p2, x ≠ h15.size + 1 := by
    rcases hp2 with e | g
    · rw [e]; intro x hx; have := hpl x hx; omega
    · intro x hx; have := New.mem g x hx; omega
  have KW : ∀ {b : Nat} {o : Obj}, h16[b]? = some o → b ≠ h14.size → b ≠ h15.size + 1 → b ≠ c → (b < h3.size ∨ h4.size ≤ b) → h17[b]? = some o := by
    intro b o hb g1 g2 g3 g4
    refine D.kept.some hb ?_
    simp only [List.mem_cons, not_or]
    exact ⟨g1, g2, g3, fun hm => by have := hpl _ hm; have := hpn _ hm; omega⟩
  have hnb : n2 = nb := by have := C2.len; have := Rb.row.len; omega
  have C3 := C2.kept k18 (by simp; omega) (fun x hx hm => np2 x hx (by simpa using hm))
  have so3 := SlC.kept so k18 (fun a ha hm' => by have := npo a ha; simp at hm'; omega)
  -- what was there before is kept
  have K18 : Kept [] h (h17.setIfInBounds (h15.size + 1) (.loop { r' with state := .exhausted })) := (k016.trans D.kept fun x hx hlt => by
    simp only [List.mem_cons] at hx
    rcases hx with e | e | e | e
    · omega
    · omega
    · omega
    · have := hpn x e; omega).trans k18 fun x hx hlt => by simp at hx; omega
  have e6 := k18.some (KW c6 (by omega) (by omega) (by omega) (by omega)) (by simp; omega)
  have e7 := k18.some (KW c7 (by omega) (by omega) (by omega) (by omega)) (by simp; omega)
  have eq := k18.some (KW cq (by omega) (by omega) (by omega) (by omega)) (by simp; omega)
  have e9 := k18.some (KW c9 (by omega) (by omega) (by omega) (by omega)) (by simp; omega)
  have e10 := k18.some (KW c10 (by omega) (by omega) (by omega) (by omega)) (by simp; omega)
  have e11 := k18.some (KW c11 (by omega) (by omega) (by omega) (by omega)) (by simp; omega)
  have eB := k18.some (KW bB (by omega) (by omega) (by omega) (by omega)) (by simp)
  have e12 := k18.some d12 (by simp; omega)
  -- the rows that the document gave: new blocks of call 8
  have out : ∀ {pz : Option Addr}, (∀ x ∈ blk pz, x < h10.size) → (pz = pr ∨ New h9.size pz) → ∀ x ∈ blk pz, x ∉ (h14.size :: (h15.size + 1) :: c :: blk p : List Nat) := by
    intro pz hl hor x hx
    have := hl x hx
    simp only [List.mem_cons, not_or]
    rcases hor with e | g
    · rw [e] at hx
      have hne : x ≠ c := by rintro rfl; exact hcr hx
      exact ⟨by omega, by omega, hne, hap x hx⟩
    · have := New.mem g x hx
      exact ⟨by omega, by omega, by omega, fun hm => by have := hpl _ hm; omega⟩
  have Sw17 := SlC.kept (SlC.kept Sw k1016 (by simp)) D.kept fun a ha => out (fun x hx => Sw.blk_lt x hx) (.inr nw) _ (mem_blk.2 ⟨a, ha, rfl⟩)
  have Sb17 := SlC.kept (SlC.kept Rb.row k1016 (by simp)) D.kept fun a ha => out (fun x hx => Rb.row.blk_lt x hx) nb' _ (mem_blk.2 ⟨a, ha, rfl⟩)
  have Sw18 := SlC.kept Sw17 k18 fun a ha hm => by have := SlC.lt Sw a ha; simp at hm; omega
  have Sb18 := SlC.kept Sb17 k18 fun a ha hm => by have := SlC.lt Rb.row a ha; simp at hm; omega
  -- behind the first walk
  have tail : dn Try.prog M3 none (codeAt (bodyC Try.f3) [1, 1, 1, 1, 1, 1, 1, 1]) (fr1 h.size h1.size h2.size h4.size h7.size h10.size h11.size h14.size (.func (.func 30) #[] #[.pointer (some ⟨h6.size, 0, none⟩)])) [{ target := .collected h15.size, args := #[] }]
      (h17.setIfInBounds (h15.size + 1) (.loop { r' with state := .exhausted })) (exitH Try.prog Try.f3 Q) := by
    generalize (h17.setIfInBounds (h15.size + 1) (.loop { r' with state := .exhausted })) = h18 at *
    unfold fr1
    rw [vc3_11111111]
    refine ⟨_, _, _, by rw [cell_of e12]; rfl, _, _, _, by rw [cell_of e10]; rfl, ?_⟩
    refine call10 so3 Sw18 (by omega) ⟨_, rfl, BIf.neg (by simp) ?_⟩
    refine ⟨_, by rw [cell_of e7]; rfl, _, _, _, by rw [cell_of e11]; rfl, ?_⟩
    have fin : ∀ h19, Kept [] h18 h19 → dn Try.prog M3 none (codeAt (bodyC Try.f3) [1, 1, 1, 1, 1, 1, 1, 1, 0, 1]) (FrL 115 [(6, .pointer (some ⟨h2.size, 0, none⟩)), (9, .pointer (some ⟨h7.size, 0, none⟩)), (11, .pointer (some ⟨h11.size, 0, none⟩)), (81, .bool !decide (behind = behind))]) [{ target := .collected h15.size, args := #[] }] h19 (seqK (dn Try.prog M3 none (codeAt (bodyC Try.f3) [1, 1, 1, 1, 1, 1, 1, 1, 1])) (exitH Try.prog Try.f3 Q)) := by
      intro h19 k19
      rw [vc3_1111111101]
      refine BIf.neg (by simp) ?_
      rw [ks_normal]
      subst hnb
      refine second3 (by omega) (C3.kept k19 (by simp) (by simp)) (k19.some e9 (by simp)) (k19.some eq (by simp)) (k19.some e11 (by simp)) (SlC.kept Sb18 k19 (by simp)) (k19.some e6 (by simp)) (k19.some eB (by simp)) (by omega) fun h20 k20 => ?_
      exact k h20 ((K18.trans k19 (by simp)).trans k20 fun x hx hlt => by simp at hx; omega)
    have hlb := C2.len
    refine ⟨?_, ?_, trivial⟩
    · refine call11 (by omega) C3 fun h19 p3 c3 k19 s3 => ⟨_, _, _, rfl, _, _, _, by rw [cell_of (k19.some e11 (by simp))]; rfl, ?_⟩
      have s3' : VerS h19 36 p3 (min n2 (nb + 1)) c3 behind := by
        rw [show min n2 (nb + 1) = behind.length by omega, List.take_length, show behind.length = min n2 (nb + 1) by omega] at s3
        exact s3
      exact call10 s3' (SlC.kept Sb18 k19 (by simp)) (by omega) ⟨_, rfl, fin h19 k19⟩
    · refine ⟨_, _, _, by rw [cell_of e11]; rfl, ?_⟩
      refine call11 (by omega) C3 fun h19 p3 c3 k19 s3 => ⟨_, _, _, rfl, ?_⟩
      have s3' : VerS h19 36 p3 (min n2 (nb + 1)) c3 behind := by
        rw [show min n2 (nb + 1) = behind.length by omega, List.take_length, show behind.length = min n2 (nb + 1) by omega] at s3
        exact s3
      exact call10 s3' (SlC.kept Sb18 k19 (by simp)) (by omega) ⟨_, rfl, fin h19 k19⟩
  refine ⟨r', hr', hst, ?_⟩
  rcases hpend with e | e
  · rw [e]
    simp only []
    rw [kx_normal, ks_normal]; rw [e] at tail; exact tail
  · rw [e]
    simp only [jumpK]
    rw [kx_exit, ks_normal]; rw [e] at tail; exact tail
end Go.Proofs.Ytabidhoaginokaa
