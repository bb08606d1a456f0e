import Derived.Test.YtjmjackeeiglmaaRaw
import Derived.Test.YtjmjackeeiglmaaFs1
import Derived.Test.YtjmjackeeiglmaaFs2
import Derived.Test.YtjmjackeeiglmaaFs3
namespace Go.Proofs.Ytjmjackeeiglmaa
open Go.Dec Go.RowKit
set_option maxHeartbeats 400000

def ci (i : Int) : List Value := [.int .i64 i]
theorem ci1 (i : Int) : (ci i).length = 1 := rfl
def cb (b : Bool) : List Value := [.bool b]
theorem cb1 (b : Bool) : (cb b).length = 1 := rfl
structure Pl where
  kind : Int
  id : Int
  frm : List Int
def RdP (w : World) (s : Sl) (l : List Pl) : Prop := s.len = l.length ∧ ∀ i p, l[i]? = some p → ∃ ad fs, s.a = some ad ∧ AtC w (ad.add (i * 3)) [.int .i64 p.kind, .int .i64 p.id, fs.v] ∧ Rd w ci 1 fs p.frm
theorem RdP.len {w : World} {s : Sl} {l : List Pl} (h : RdP w s l) : s.len = l.length := h.1
theorem atq {w w' : World} {p : Addr} {cs : List Value} (h : AtC w p cs) (q : Quiet w w') : AtC w' p cs := fun j u hu => q.cell id (h j u hu)
theorem RdP.keepQ {w w' : World} {s : Sl} {l : List Pl} (h : RdP w s l) (q : Quiet w w') : RdP w' s l :=
  ⟨h.1, fun i p hp => by
    obtain ⟨ad, fs, h1, h2, h3⟩ := h.2 i p hp
    exact ⟨ad, fs, h1, atq h2 q, h3.keepQ q⟩⟩
theorem RdP.ix {w : World} {s : Sl} {l : List Pl} {i : Int} {K : Addr → Prop} (h : RdP w s l) (h0 : 0 ≤ i) (h1 : i < l.length)
    (k : ∀ p x fs, l[i.toNat]? = some x → AtC w p [.int .i64 x.kind, .int .i64 x.id, fs.v] → Rd w ci 1 fs x.frm → K p) : Go.Dec.ix s i 3 K := by
  have hx : l[i.toNat]? = some (l[i.toNat]'(by omega)) := List.getElem?_eq_getElem (by omega)
  obtain ⟨ad, fs, h2, h3, h4⟩ := h.2 _ _ hx
  exact ⟨⟨h0, by rw [h.1]; exact h1⟩, ad, h2, k _ _ fs hx h3 h4⟩
theorem slot3 {t : TypeId} {z0 z1 z2 x y v : Value} {w : World} {K : Nat → World → Prop}
    (k : ∀ b w', Blk w' b t #[x, y, v] → Quiet w w' → K b w') : nw t #[z0, z1, z2] w fun b w1 => st (Addr.mk b 0 none) [x, y, v] w1 fun w2 => K b w2 := by
  refine nwL fun b w1 hb hq hge hsz hlt => ?_
  refine hb.st0 (by simp) fun w2 hb2 on hs => ?_
  exact k b w2 hb2 ((hq.trans on).mono fun b' h' e => e.elim id fun e => by omega)

theorem has_c (w : World) (s : Sl) (l : List Int) (n : Int) (h : Rd w ci 1 s l) (hl : l.length ≤ 1000000) :
    callC Try.prog 19 #[s.v, .int .i64 n] (fun (r : Bool) => .bool r) w fun r w' => r = decide (n ∈ l) ∧ w = w' := by
  have hsl := h.len
  refine D19 _ _ w _ ?_
  unfold F19
  refine ⟨fun i w' => 0 ≤ i ∧ i ≤ l.length ∧ n ∉ l.take i.toNat ∧ w = w', fun i _ => (l.length - i).toNat, ⟨by omega, by omega, by simp, rfl⟩, ?_⟩
  rintro i w' ⟨i0, i1, hn, rfl⟩
  refine ⟨fun hi => ?_, fun hi => ?_⟩
  · have hlt : i < l.length := by simpa [hsl] using hi
    refine h.ix i0 hlt fun p x hx hat _ => hat.ld0 rfl ⟨fun hc => ?_, fun hc => ?_⟩
    · have : x = n := by simpa using hc
      subst this
      have := List.mem_of_getElem? hx
      simp [this]
    · have hne : x ≠ n := by simpa using hc
      rw [w64 (by omega) (by omega)]
      refine ⟨⟨by omega, by omega, ?_, rfl⟩, by (try dsimp only); omega⟩
      rw [show (i + 1).toNat = i.toNat + 1 by omega]
      obtain ⟨hj, hxe⟩ := List.getElem?_eq_some_iff.1 hx
      rw [List.take_succ_eq_append_getElem hj, hxe]
      simp only [List.mem_append, List.mem_singleton, not_or]
      exact ⟨hn, fun e => hne e.symm⟩
  · have hge : l.length ≤ i.toNat := by simp [hsl] at hi; omega
    rw [List.take_of_length_le hge] at hn
    simp [hn]

/-! ### valid places -/
def lastOf (frm : List Int) (k : Nat) : Int := if k = 0 then -1 else frm.getD (k - 1) 0
structure OkP (i : Nat) (p : Pl) : Prop where
  k0 : 0 ≤ p.kind
  k1 : p.kind < 8
  d0 : 0 ≤ p.id
  d1 : p.id ≤ 1099511627776
  f : ∀ k f, p.frm[k]? = some f → lastOf p.frm k < f ∧ f < i
structure RtP (l : List Pl) : Prop where
  ok : ∀ i p, l[i]? = some p → OkP i p
  len : l.length ≤ 100000
theorem lastOf_succ {frm : List Int} {k : Nat} {f : Int} (h : frm[k]? = some f) : lastOf frm (k + 1) = f := by simp [lastOf, List.getD, h]
theorem OkP.from_ge {i : Nat} {p : Pl} (h : OkP i p) : ∀ (k : Nat) (f : Int), p.frm[k]? = some f → (k : Int) ≤ f
  | 0, f, hf => by have := (h.f 0 f hf).1; simp [lastOf] at this; omega
  | k + 1, f, hf => by
    have hk : k < p.frm.length := by have := (List.getElem?_eq_some_iff.1 hf).1; omega
    have hg := List.getElem?_eq_getElem hk
    have ih := h.from_ge k _ hg
    have := (h.f (k + 1) f hf).1
    rw [lastOf_succ hg] at this
    omega
theorem OkP.mem {i : Nat} {p : Pl} (h : OkP i p) {f : Int} (hf : f ∈ p.frm) : 0 ≤ f ∧ f < i := by
  obtain ⟨k, hk, rfl⟩ := List.getElem_of_mem hf
  have hg := List.getElem?_eq_getElem hk
  have := h.from_ge k _ hg
  have := (h.f k _ hg).2
  omega

structure Upto (l : List Pl) (i : Int) (w w' : World) : Prop where
  i0 : 0 ≤ i
  i1 : i ≤ l.length
  ok : ∀ (j : Nat) p, (j : Int) < i → l[j]? = some p → OkP j p
  q : Quiet w w'

theorem right_c (w : World) (s : Sl) (l : List Pl) (h : RdP w s l) (hl : l.length ≤ 9223372036854775807) (hf : ∀ p ∈ l, p.frm.length ≤ 9223372036854775807) :
    callC Try.prog 10 #[s.v] (fun (r : Bool) => .bool r) w fun r w' => (r = true ↔ RtP l) ∧ Quiet w w' := by
  have hsl := h.len
  refine D10 _ w _ ?_
  unfold F10
  refine ⟨fun i w' => Upto l i w w', fun i _ => (l.length - i).toNat, ⟨by omega, by omega, fun j p hj => by omega, Only.refl _ _⟩, ?_⟩
  rintro i w1 ⟨i0, i1, hok, q1⟩
  refine ⟨fun hi => ?_, fun hi => ?_⟩
  · have hlt : i < l.length := by simpa [hsl] using hi
    refine (h.keepQ q1).ix i0 hlt fun p x fs hx hat hfs => hat.ld (j := 0) rfl (hat.ld (j := 1) rfl (hat.ld (j := 2) (x := fs) rfl ?_))
    refine slot3 fun b7 w3 hb q3 => hb.ld rfl ?_
    have q13 := q1.tr q3
    have bad : ¬ OkP i.toNat x → ((false = true ↔ RtP l) ∧ Quiet w w3) := fun hn => ⟨⟨fun e => (by cases e), fun e => absurd (e.ok _ _ hx) hn⟩, q13⟩
    refine jp.val (decide (x.kind < 0) || decide (8 ≤ x.kind)) ⟨fun hc => by simp [hc], fun hc => hb.ld rfl (by simp [hc])⟩ ?_
    refine jp.val ((decide (x.kind < 0) || decide (8 ≤ x.kind)) || decide (x.id < 0)) ⟨fun hc => by simp [hc], fun hc => hb.ld rfl (by simp [hc])⟩ ?_
    refine jp.val (((decide (x.kind < 0) || decide (8 ≤ x.kind)) || decide (x.id < 0)) || decide (1099511627776 < x.id)) ⟨fun hc => by simp [hc], fun hc => hb.ld rfl (by simp [hc])⟩ ?_
    refine ⟨fun hc => ?_, fun hc => ?_⟩
    · refine bad fun ⟨a, b, c, d, _⟩ => ?_
      simp at hc
      omega
    have hk : ((0 ≤ x.kind ∧ x.kind < 8) ∧ 0 ≤ x.id) ∧ x.id ≤ 1099511627776 := by simpa using hc
    refine hb.ld (x := fs) rfl ?_
    have hfl := hfs.len
    have hxl := hf x (List.mem_of_getElem? hx)
    refine ⟨fun (c : Int × Int) w' => 0 ≤ c.2 ∧ c.2 ≤ x.frm.length ∧ c.1 = lastOf x.frm c.2.toNat ∧ (∀ (k : Nat) f, (k : Int) < c.2 → x.frm[k]? = some f → lastOf x.frm k < f ∧ f < i) ∧ w3 = w', fun c _ => (x.frm.length - c.2).toNat, ⟨by simp, by simp, by simp [lastOf], fun k f hk => by simp at hk; omega, rfl⟩, ?_⟩
    rintro ⟨last, k⟩ w4 ⟨k0, k1, hlast, hfok, rfl⟩
    dsimp only at k0 k1 hlast hfok ⊢
    refine ⟨fun hk' => ?_, fun hk' => ?_⟩
    · have hlt2 : k < x.frm.length := by simpa [hfl] using hk'
      refine ((hfs.keepQ q3)).ix k0 hlt2 fun p' f hf' hat' _ => hat'.ld0 rfl ⟨fun hc => ?_, fun hc => ?_⟩
      · refine bad fun hO => ?_
        have := hO.f _ _ hf'
        simp [hlast] at hc
        omega
      · have hc' : lastOf x.frm k.toNat < f ∧ f < i := by rw [hlast] at hc; simpa using hc
        rw [w64 (by omega) (by omega)]
        refine ⟨⟨by (try dsimp only); omega, by (try dsimp only); omega, ?_, fun j g hj hg => ?_, rfl⟩, by (try dsimp only); omega⟩
        · rw [show (k + 1).toNat = k.toNat + 1 by omega, lastOf_succ hf']
        · by_cases e : (j : Int) < k
          · exact hfok j g e hg
          · have : j = k.toNat := by omega
            subst this
            rw [hf'] at hg
            injection hg with hg
            subst hg
            exact hc'
    · have hk'' : ¬ k < x.frm.length := by simpa [hfl] using hk'
      rw [w64 (by omega) (by omega)]
      refine ⟨⟨by omega, by omega, fun j p hj hp => ?_, q13⟩, by (try dsimp only); omega⟩
      by_cases e : (j : Int) < i
      · exact hok j p e hp
      · have : j = i.toNat := by omega
        subst this
        rw [hx] at hp
        injection hp with hp
        subst hp
        refine ⟨hk.1.1.1, hk.1.1.2, hk.1.2, hk.2, fun k' f hf' => ?_⟩
        have hlt3 := (List.getElem?_eq_some_iff.1 hf').1
        have := hfok k' f (by omega) hf'
        omega
  · have hge : ¬ i < l.length := by simpa [hsl] using hi
    refine ⟨?_, q1⟩
    rw [hsl]
    constructor
    · intro e
      have : (l.length : Int) ≤ 100000 := by simpa using e
      exact ⟨fun j p hp => hok j p (by have := (List.getElem?_eq_some_iff.1 hp).1; omega) hp, by omega⟩
    · intro e
      have := e.len
      simp
      omega
end Go.Proofs.Ytjmjackeeiglmaa
