/-
  The walk over a chain (an iterator that calls its yield).
-/
import Derived.Test.YtabidhoaginokaaVcX9
namespace Go.Proofs.Ytabidhoaginokaa
open Go Go.Proofs Go.Proofs.Ytabidhoaginokaa.Vc
set_option linter.unusedVariables false
set_option linter.unusedSimpArgs false
set_option maxRecDepth 100000

/-- What a caller keeps while a chain is walked: I (fuel) (the number given last); D at the end. -/
structure Walkable (c q L : Nat) (I : Nat → Int → Heap → Prop) (D : Heap → Prop) : Prop where
  cell : ∀ m last h, I m last h → cellH h ⟨q, 0, none⟩ = some (.pointer (some ⟨c, 0, none⟩))
  chain : ∀ m last h, I m last h → ∃ p n cap l, ChainAt h c p n cap l
  stab : ∀ m last h h', I m last h → Kept [] h h' → I m last h'
  round : ∀ m last h v k p n cap l, I m last h → ChainAt h c p n cap l → Cut l last k → l[k]? = some v →
    RoundH Try.prog L #[.int .i64 v.1, .string v.2] h fun r h' => (r = .bool true ∧ ∃ m', m' < m ∧ I m' v.1 h') ∨ (r = .bool false ∧ D h')
  done : ∀ m last h p n cap l, I m last h → ChainAt h c p n cap l → Cut l last l.length → D h

theorem loop30 {c q L : Nat} {I : Nat → Int → Heap → Prop} {D : Heap → Prop} {ds : List Deferred} {K : Exit → Fr → List Deferred → Heap → Prop} (W : Walkable c q L I D)
    (k1 : ∀ h x3, D h → K .ret (FrL 35 [(0, .func (.yield L) #[] #[]), (1, .pointer (some ⟨q, 0, none⟩)), (3, .int .i64 x3)]) ds h)
    (k2 : ∀ h x4, D h → K (.exit 0) (FrL 35 [(0, .func (.yield L) #[] #[]), (1, .pointer (some ⟨q, 0, none⟩)), (4, .int .i64 x4)]) ds h) :
    ∀ (fuel m : Nat) (last : Int) (h : Heap) (i : Nat) (p : Option Addr) (n cap : Nat) (l : List Ver), m < fuel → I m last h → ChainAt h c p n cap l → Cut l last i →
      LoopN (dn Try.prog M30 none (codeAt (bodyC Try.f30) [1, 1, 0, 0])) fuel (FrL 35 [(0, .func (.yield L) #[] #[]), (1, .pointer (some ⟨q, 0, none⟩)), (4, .int .i64 (i : Nat))]) ds h K
  | 0, m, last, h, i, p, n, cap, l, hf, hI, C, cc => by omega
  | fuel + 1, m, last, h, i, p, n, cap, l, hf, hI, C, cc => by
    rw [loopN_succ, vc30_1100]
    have hlen := C.len
    have hle := cc.le
    have hq := W.cell m last h hI
    refine ⟨_, hq, c, 0, rfl, p, n, cap, C.cell, ?_⟩
    refine BIf.intro (fun e => ?_) (fun e => ?_)
    · have e : (i : Int) < n := by simpa using e
      obtain ⟨v, hv⟩ : ∃ v, l[i]? = some v := ⟨_, List.getElem?_eq_getElem (by omega)⟩
      obtain ⟨b, o, rfl⟩ := SlC.ptr C.row (by omega)
      refine ⟨_, hq, c, 0, rfl, _, n, cap, C.cell, b, o, rfl, by omega, by omega, v.1, ?_, v.2, ?_, ?_⟩
      · rw [Int.toNat_natCast]; exact C.row.n hv
      · rw [Int.toNat_natCast]; exact C.row.s hv
      · intro h1 hh1
        have kp1 : Kept [] h h1 := hh1 ▸ Kept.push _
        have hb1 : h1[h.size]? = some (.cells #[.int .i64 0, .string ⟨#[]⟩] 77 (0, 0)) := by rw [hh1]; exact get_push_eq
        refine store2 hb1 fun h2 kp2 hb2 => ?_
        have kk : Kept [] h h2 := kp1.trans kp2 fun x hx hlt => by simp at hx; omega
        refine ⟨v.1, by rw [cell_of hb2]; rfl, v.1, by rw [cell_of hb2]; rfl, v.2, by rw [cell_of hb2]; rfl, ?_⟩
        refine callV_yield ((W.round m last h2 v i _ n cap l (W.stab m last h h2 hI kk) (C.kept kk (by simp) (by simp)) cc hv).mono fun r h3 hor => ?_)
        rcases hor with ⟨rfl, m', hm', hI'⟩ | ⟨rfl, hD⟩
        · refine ⟨true, rfl, BIf.neg rfl ?_⟩
          obtain ⟨p', n', cap', l', C'⟩ := W.chain m' v.1 h3 hI'
          refine ⟨_, W.cell m' v.1 h3 hI', ?_⟩
          refine call31 C' fun i' h4 kp4 cc' => ⟨_, rfl, ?_⟩
          rw [kl_normal]
          exact loop30 W k1 k2 fuel m' v.1 h4 i' p' n' cap' l' (by omega) (W.stab m' v.1 h3 h4 hI' kp4) (C'.kept kp4 (by simp) (by simp)) cc'
        · refine ⟨false, rfl, BIf.pos rfl ?_⟩
          rw [kl_ret]; exact k1 h3 _ hD
    · have e : ¬ (i : Int) < n := by simpa using e
      rw [kl_exit]
      refine k2 h _ (W.done m last h p n cap l hI C ?_)
      rw [show l.length = i by omega]; exact cc

theorem call30 {c q L m : Nat} {h : Heap} {I : Nat → Int → Heap → Prop} {D : Heap → Prop} {Q : Value → Heap → Prop} (W : Walkable c q L I D) (hI : I m (-1) h) (k : ∀ h', D h' → Q (.tuple #[]) h') :
    CallH Try.prog 30 #[.func (.yield L) #[] #[], .pointer (some ⟨q, 0, none⟩)] h Q := by
  refine call_of_fn (M := M30) (args := [_, _]) Try.func30 rfl rfl (Nat.le_of_ble_eq_true rfl) ?_
  rw [vc30]
  obtain ⟨p, n, cap, l, C⟩ := W.chain m (-1) h hI
  refine ⟨_, W.cell m (-1) h hI, ?_⟩
  refine call31 C fun i h1 kp1 cc => ⟨_, rfl, ?_⟩
  refine loop_of _ (loop30 W (fun h2 x3 hD => ?_) (fun h2 x4 hD => ?_) (m + 1) m (-1) h1 i p n cap l (by omega) (W.stab m (-1) h h1 hI kp1) (C.kept kp1 (by simp) (by simp)) cc)
  · rw [kx_ret, ret30]; exact k h2 hD
  · rw [kx_exit, end30b]; exact k h2 hD
end Go.Proofs.Ytabidhoaginokaa
