/- The reference's Open. -/
import Derived.Test.YtopppkafbbfobaaC48
import Derived.Test.YtopppkafbbfobaaC19
namespace Go.Proofs.Ytopppkafbbfobaa.W
open Go.RowKit
/-- What the reference's Open leaves: a part of what it got. -/
def ROpenPost (w : World) (A : Option Addr) (c : Nat) (r : Except Nat Bs) (e : Ending) (w' : World) : Prop :=
  Below w.heap.size w w' ∧ match r with
    | .error k => e = .returned (.tuple #[.slice none 0 0, .int .i64 (k : Int)])
    | .ok cr => e = .returned (.tuple #[.slice A cr.length c, .int .i64 0])
set_option maxRecDepth 100000 in
set_option maxHeartbeats 400000 in
theorem rOpen_short (key : Nat) (A : Option Addr) (n c : Nat) (w : World) (hn : n < 8) :
    Calls Try.prog 63 #[.int .u64 (key : Int), .slice A n c] w fun e w' => e = .returned (.tuple #[.slice none 0 0, .int .i64 2]) ∧ w = w' := by
  have h1 : (n : Int) < 8 := by omega
  go_enter Try.func63, Try.ntmps63
  go_wp2
  go_ret2
  exact ⟨rfl, rfl⟩
theorem rd_take5 {w : World} {A : Option Addr} {l : Bs} (h : Rd w A (bv l)) (q : Nat) : Rd w A (bv (l.take q)) := by
  refine ⟨by have := h.1; rw [bv_length] at this ⊢; rw [List.length_take]; omega, fun h0 => ?_⟩
  rw [bv_length, List.length_take] at h0
  obtain ⟨b, off, e, hc⟩ := h.2 (by rw [bv_length]; omega)
  refine ⟨b, off, e, fun j u hu => hc j u ?_⟩
  have hj := (List.getElem?_eq_some_iff.1 hu).1
  rw [bv_length, List.length_take] at hj
  rw [← hu]
  simp [bv, show j < q by omega]
set_option maxRecDepth 100000 in
set_option maxHeartbeats 400000 in
theorem rOpen_any (key : Nat) (hk : key < 18446744073709551616) (A : Option Addr) (l : List UInt8) (n c : Nat) (w : World) (hn : n = l.length) (hc : n ≤ c) (hl : n ≤ 140737488350000) (hR : Rd w A (bv l)) :
    Calls Try.prog 63 #[.int .u64 (key : Int), .slice A n c] w (ROpenPost w A c (openP key l)) := by
  unfold openP
  by_cases h8 : l.length < 8
  · rw [if_pos h8]
    refine (rOpen_short key A n c w (by omega)).mono ?_
    rintro e w' ⟨rfl, rfl⟩
    exact ⟨Below.refl _ _, rfl⟩
  rw [if_neg h8]
  obtain ⟨q, hq⟩ : ∃ q, n = q + 8 := ⟨n - 8, by omega⟩
  subst hq
  rw [← hn, Nat.add_sub_cancel]
  have h1 : (l.take q).length = q := by rw [List.length_take]; omega
  have hsame : (sealed key (l.take q) = l) ↔ stamp key (l.take q) = l.drop q := by
    unfold sealed
    constructor
    · intro h
      have := congrArg (List.drop q) h
      rwa [List.drop_left' h1] at this
    · intro h; rw [h, List.take_append_drop]
  have hcut := run_cut_to Try.underlying28 cel5 ino5 A (q + 8) c (q : Int) (by omega) (by omega)
  rw [cutAt_zero, Int.toNat_natCast] at hcut
  have hR1 := rd_take5 hR q
  have HN := hide hn
  have H1 := hide h1
  obtain ⟨x, hx⟩ : ∃ x, x = l.take q := ⟨_, rfl⟩
  rw [← hx] at hsame hR1 H1 ⊢
  obtain ⟨y, hy⟩ : ∃ y, y = sealed key x := ⟨_, rfl⟩
  have hyl : y.length = q + 8 := by rw [hy, sealed_length, H1.out]
  have hrs := rSeal_any key hk A x q c w H1.out.symm hR1 (by omega)
  rw [← hy] at hrs hsame
  have HYL := hide hyl
  have HSM := hide hsame
  clear hx hy hyl hsame hn h1 h8
  by_cases hst : stamp key x = l.drop q
  · rw [if_pos hst]
    have hyy := hide (HSM.out.2 hst)
    clear hst
    go_enter Try.func63, Try.ntmps63
    go_wp2_with fail
    with_reducible refine hrs.mono ?_
    rintro e w1 ⟨v1, rfl, ho1, hB1⟩
    obtain ⟨A1, c1, rfl, hc1, hR2⟩ := Bt.own ho1 (by have := HYL.out; omega)
    have hs := same_any A1 A y l y.length (q + 8) c1 c w1 rfl HN.out hR2 (hR.below hB1)
    rw [decide_eq_true hyy.out] at hs
    clear hrs ho1 hR2
    generalize y.length = yl at *
    go_wp2_with fail
    with_reducible refine hs.mono ?_
    rintro e w2 hq2
    obtain ⟨rfl, hB2⟩ := hq2.below
    clear hs hq2
    go_wp2
    go_ret2
    exact ⟨since_call hB1 hB2, by show _ = Ending.returned (.tuple #[.slice A x.length c, .int .i64 0]); rw [H1.out]; rfl⟩
  · rw [if_neg hst]
    have hyy := hide (fun h => hst (HSM.out.1 h))
    clear hst
    go_enter Try.func63, Try.ntmps63
    go_wp2_with fail
    with_reducible refine hrs.mono ?_
    rintro e w1 ⟨v1, rfl, ho1, hB1⟩
    obtain ⟨A1, c1, rfl, hc1, hR2⟩ := Bt.own ho1 (by have := HYL.out; omega)
    have hs := same_any A1 A y l y.length (q + 8) c1 c w1 rfl HN.out hR2 (hR.below hB1)
    rw [decide_eq_false hyy.out] at hs
    clear hrs ho1 hR2
    generalize y.length = yl at *
    go_wp2_with fail
    with_reducible refine hs.mono ?_
    rintro e w2 hq2
    obtain ⟨rfl, hB2⟩ := hq2.below
    clear hs hq2
    go_wp2
    go_ret2
    exact ⟨since_call hB1 hB2, rfl⟩
end Go.Proofs.Ytopppkafbbfobaa.W
