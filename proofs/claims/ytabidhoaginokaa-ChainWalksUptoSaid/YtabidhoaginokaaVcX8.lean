/-
  laid.
-/
import Derived.Test.YtabidhoaginokaaVcX7
namespace Go.Proofs.Ytabidhoaginokaa
open Go Go.Proofs Go.Proofs.Ytabidhoaginokaa.Vc
set_option linter.unusedVariables false
set_option linter.unusedSimpArgs false
set_option maxRecDepth 100000

/-! ### Acts, as cells -/
def acells : List ActV → List Value
  | [] => []
  | v :: r => .bool v.1 :: .int .i64 v.2.1 :: .string v.2.2 :: acells r
theorem acells_len : ∀ l, (acells l).length = l.length * 3
  | [] => rfl
  | v :: r => by simp [acells, acells_len r]; omega
theorem acells_at : ∀ (l : List ActV) (i : Nat) (v : ActV), l[i]? = some v → (acells l)[i * 3]? = some (.bool v.1) ∧ (acells l)[i * 3 + 1]? = some (.int .i64 v.2.1) ∧ (acells l)[i * 3 + 2]? = some (.string v.2.2)
  | [], i, v, h => by simp at h
  | u :: r, 0, v, h => by simp at h; subst h; exact ⟨rfl, rfl, rfl⟩
  | u :: r, i + 1, v, h => by
    have := acells_at r i v (by simpa using h)
    rw [show (i + 1) * 3 = i * 3 + 1 + 1 + 1 by omega]
    exact this
def ActS (h : Heap) (p : Option Addr) (n c : Nat) (l : List ActV) : Prop := SlC h 34 3 p n c (acells l)
theorem ActS.len {h : Heap} {p : Option Addr} {n c : Nat} {l : List ActV} (s : ActS h p n c l) : l.length = n := by
  have := SlC.len s; rw [acells_len] at this; omega
theorem rdA {h : Heap} {p : Option Addr} {n c : Nat} {l : List ActV} {k : Nat} {R : Bool → Int → ByteArray → Prop} (s : ActS h p n c l) (hk : k < n) (r : ∀ v, l[k]? = some v → R v.1 v.2.1 v.2.2) :
    ∃ (b : Nat), ∃ (o : Nat), p = some { block := b, off := o : Addr } ∧ 0 ≤ (k : Int) ∧ (k : Int) < (n : Int) ∧ ∃ (x : Bool), cellH h { block := b, off := o + Int.toNat (k : Int) * 3 : Addr } = some (Value.bool x) ∧
      ∃ (m : Int), cellH h { block := b, off := o + Int.toNat (k : Int) * 3 + 1 : Addr } = some (Value.int IntKind.i64 m) ∧ ∃ (t : ByteArray), cellH h { block := b, off := o + Int.toNat (k : Int) * 3 + 2 : Addr } = some (Value.string t) ∧ R x m t := by
  obtain ⟨b, o, rfl⟩ := SlC.ptr s (by omega)
  obtain ⟨v, hv⟩ : ∃ v, l[k]? = some v := ⟨_, List.getElem?_eq_getElem (by rw [s.len]; exact hk)⟩
  obtain ⟨a1, a2, a3⟩ := acells_at l k v hv
  rw [Int.toNat_natCast]
  refine ⟨b, o, rfl, by omega, by omega, v.1, ?_, v.2.1, ?_, v.2.2, ?_, r v hv⟩
  · rw [SlC.cell s (by omega), a1]
  · rw [Nat.add_assoc, SlC.cell s (by omega), a2]
  · rw [Nat.add_assoc, SlC.cell s (by omega), a3]

/-- All its blocks are new since so many. -/
def New (b : Nat) (p : Option Addr) : Prop := ∀ a, p = some a → b ≤ a.block
theorem New.mem {b : Nat} {p : Option Addr} (x : New b p) : ∀ r ∈ blk p, b ≤ r := fun r hr => by
  obtain ⟨a, ha, e⟩ := mem_blk.1 hr
  have := x a ha; omega
theorem VerS.blk_lt {h : Heap} {e : TypeId} {p : Option Addr} {n c : Nat} {l : List Ver} (s : VerS h e p n c l) : ∀ r ∈ blk p, r < h.size := fun r hr => by
  obtain ⟨a, ha, e⟩ := mem_blk.1 hr
  have := SlC.lt s a ha; omega

theorem loop6 {p0 : Option Addr} {n0 c0 : Nat} {acts : List ActV} {ds : List Deferred} {K : Exit → Fr → List Deferred → Heap → Prop} (hn : n0 ≤ 2 ^ 20) {h0 : Heap} (hs0 : ActS h0 p0 n0 c0 acts) {c : Nat} (hc : h0.size ≤ c)
    (k : ∀ h p n cap l pr nr cr x6, Kept [] h0 h → ChainAt h c p n cap l → RowAt h pr nr cr l → n ≤ n0 → New h0.size p → New h0.size pr → c ∉ blk pr → (∀ r ∈ blk pr, r ∉ blk p) →
      K (.exit 0) (FrL 32 [(0, .slice p0 n0 c0), (4, .pointer (some ⟨c, 0, none⟩)), (5, .slice pr nr cr), (6, .int .i64 x6)]) ds h) :
    ∀ (fuel k' : Nat) (h : Heap) (p : Option Addr) (n cap : Nat) (l : List Ver) (pr : Option Addr) (nr cr : Nat), k' ≤ n0 → n0 - k' < fuel → Kept [] h0 h → ChainAt h c p n cap l → RowAt h pr nr cr l → n ≤ k' → New h0.size p → New h0.size pr → c ∉ blk pr → (∀ r ∈ blk pr, r ∉ blk p) →
      LoopN (dn Try.prog M6 none (codeAt (bodyC Try.f6) [1, 1, 1, 0, 1, 0, 0])) fuel (FrL 32 [(0, .slice p0 n0 c0), (4, .pointer (some ⟨c, 0, none⟩)), (5, .slice pr nr cr), (6, .int .i64 (k' : Nat))]) ds h K
  | 0, k', h, p, n, cap, l, pr, nr, cr, hk, hf, kp, C, r, hnk, np, npr, hcr, hap => by omega
  | fuel + 1, k', h, p, n, cap, l, pr, nr, cr, hk, hf, kp, C, r, hnk, np, npr, hcr, hap => by
    rw [loopN_succ, vc6_1110100]
    have hlen := C.len
    have hrlen := r.row.len
    have hs : ActS h p0 n0 c0 acts := SlC.kept hs0 kp (by simp)
    refine BIf.intro (fun e => ?_) (fun e => ?_)
    · have e : (k' : Int) < n0 := by simpa using e
      refine ptr_nnil_sem Try.underlying23 ⟨_, rfl, BIf.pos rfl ?_⟩
      refine rdA hs (by omega) fun v hv => ?_
      refine call29 (a := v) r (by omega) fun h1 pr' nr' cr' l' k1 d1 r1 hle1 hor1 => ⟨_, _, _, rfl, ?_⟩
      have hs1 : ActS h1 p0 n0 c0 acts := SlC.kept hs k1 (by simp)
      have C1 := C.kept k1 (by simp) (by simp)
      refine rdA hs1 (by omega) fun v' hv' => ?_
      rw [hv] at hv'; cases hv'
      have hcl : c < h.size := lt_of_get C.obj
      have hpl := C.row.blk_lt
      have npr' : New h0.size pr' := by
        rcases hor1 with e | g
        · rw [e]; exact npr
        · exact fun a ha => Nat.le_trans kp.size (g a ha)
      have hcr' : c ∉ blk pr' := by
        rcases hor1 with e | g
        · rw [e]; exact hcr
        · intro hm; have := New.mem g c hm; omega
      have hap' : ∀ x ∈ blk pr', x ∉ blk p := by
        rcases hor1 with e | g
        · rw [e]; exact hap
        · intro x hx hm; have := New.mem g x hx; have := hpl x hm; omega
      refine call9 (a := v) C1 (by omega) fun h2 p' n' cap' l2 k2 d2 C2 hle2 hor2 => ?_
      have := d1.unique d2
      subst this
      rw [incr k' (by omega), kl_normal]
      have r2 : RowAt h2 pr' nr' cr' l' := r1.kept k2 fun b hb hm => by
        rcases List.mem_cons.1 hm with e | g
        · exact hcr' (e ▸ hb)
        · exact hap' b hb g
      refine loop6 hn hs0 hc k fuel (k' + 1) h2 p' n' cap' l' pr' nr' cr' (by omega) (by omega) ?_ C2 r2 (by omega) ?_ npr' hcr' ?_
      · refine (kp.trans k1 (by simp)).trans k2 fun x hx hlt => ?_
        rcases List.mem_cons.1 hx with e | g
        · omega
        · have := np.mem x g; omega
      · rcases hor2 with e | g
        · rw [e]; exact np
        · exact fun a ha => by have := g a ha; have := k1.size; have := kp.size; omega
      · rcases hor2 with e | g
        · rw [e]; exact hap'
        · intro x hx hm
          have := New.mem g x hm
          have := r1.row.blk_lt x hx; omega
    · rw [kl_exit]
      exact k h p n cap l pr nr cr _ kp C r (by omega) np npr hcr hap

theorem call6 {h : Heap} {p0 : Option Addr} {n0 c0 : Nat} {acts : List ActV} {Q : Value → Heap → Prop} (hn : n0 ≤ 2 ^ 20) (hs : ActS h p0 n0 c0 acts)
    (k : ∀ h' c p n cap l pr nr cr, Kept [] h h' → h.size ≤ c → ChainAt h' c p n cap l → RowAt h' pr nr cr l → n ≤ n0 → New h.size p → New h.size pr → c ∉ blk pr → (∀ r ∈ blk pr, r ∉ blk p) →
      Q (.tuple #[.pointer (some ⟨c, 0, none⟩), .slice pr nr cr]) h') : CallH Try.prog 6 #[.slice p0 n0 c0] h Q := by
  refine call_of_fn (M := M6) (args := [_]) Try.func6 rfl rfl (Nat.le_of_ble_eq_true rfl) ?_
  rw [vc6]
  refine call28 fun h1 k1 C1 => ⟨_, rfl, ?_⟩
  have hsz : h.size < h1.size := lt_of_get C1.obj
  refine loop_of _ (loop6 hn hs (c := h.size) (Nat.le_refl _) (fun h2 p n cap l pr nr cr x6 kp C r hle np npr hcr hap => ?_) (n0 + 1) 0 h1 none 0 0 [] none 0 0 (by omega) (by omega) k1 C1
    ⟨SlC.nil _ _ _, List.Pairwise.nil, by simp, by omega⟩ (by omega) (by simp [New]) (by simp [New]) (by simp [blk]) (by simp [blk]))
  rw [kx_exit, ks_normal, vc6_1111, ret6]
  exact k h2 h.size p n cap l pr nr cr kp (Nat.le_refl _) C r hle np npr hcr hap
end Go.Proofs.Ytabidhoaginokaa
