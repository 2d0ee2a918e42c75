/- link.Seal. -/
import Derived.Test.YtopppkafbbfobaaC67
import Derived.Test.YtopppkafbbfobaaC68
namespace Go.Proofs.Ytopppkafbbfobaa.W
open Go.RowKit
theorem stamp8 (key : Nat) (l : Bs) : ∃ b0 b1 b2 b3 b4 b5 b6 b7 : UInt8, stamp key l = [b0, b1, b2, b3, b4, b5, b6, b7] := ⟨_, _, _, _, _, _, _, _, rfl⟩
theorem rd_block2 (W : World) (cs : Array Value) (e : TypeId) (g : Nat) (hg : g = W.heap.size) (h : cs.size ≤ 9223372036854775807) : Rd (W.alloc (.cells cs e)) (some ⟨g, 0, none⟩) cs.toList := by
  subst hg
  exact rd_block W cs.toList e h
theorem Bt.of_rd {w : World} {A : Option Addr} {l : Bs} {n c : Nat} (hR : Rd w A (bv l)) (hn : n = l.length) (hc : n ≤ c) : Bt (fun _ => True) w (.slice A n c) l := by
  subst hn
  exact ⟨A, c, rfl, hc, hR.1, fun h => by obtain ⟨b, off, e, hc⟩ := hR.2 h; exact ⟨b, off, e, trivial, hc⟩⟩
set_option maxRecDepth 100000 in
set_option maxHeartbeats 400000 in
theorem Seal_any (key : Nat) (hk : key < 18446744073709551616) (A : Option Addr) (l : List UInt8) (n c : Nat) (w : World) (hn : n = l.length) (hc : n ≤ c) (hR : Rd w A (bv l)) (hl : n ≤ 140737488350000) :
    Calls Try.prog 43 #[.int .u64 (key : Int), .slice A n c] w (RetB w (sealed key l)) := by
  obtain ⟨b0, b1, b2, b3, b4, b5, b6, b7, hst⟩ := stamp8 key l
  have hA : arr8 (stamp key l) = .agg #[.int .u8 (b0.toNat : Int), .int .u8 (b1.toNat : Int), .int .u8 (b2.toNat : Int), .int .u8 (b3.toNat : Int), .int .u8 (b4.toNat : Int), .int .u8 (b5.toNat : Int), .int .u8 (b6.toNat : Int), .int .u8 (b7.toNat : Int)] := by rw [hst]; rfl
  have hS := hide (show sealed key l = [l, [b0, b1, b2, b3, b4, b5, b6, b7]].flatten from by rw [sealed, hst]; simp)
  have HN := hide hn
  have HA := hide hA
  clear hn hA hst
  go_enter Try.func43, Try.ntmps43
  go_wp2_with fail
  refine (seal_any key hk A l n c _ HN.out hR).mono ?_
  rw [HA.out]
  rintro e w1 ⟨rfl, hB⟩
  have hR1 := hR.below hB
  go_wp2_with fail
  have h0 := (Below.refl w1.heap.size w1).alloc (Nat.le_refl _) (Obj.cells #[.int .u8 (b0.toNat : Int), .int .u8 (b1.toNat : Int), .int .u8 (b2.toNat : Int), .int .u8 (b3.toNat : Int), .int .u8 (b4.toNat : Int), .int .u8 (b5.toNat : Int), .int .u8 (b6.toNat : Int), .int .u8 (b7.toNat : Int)] 95)
  have h1 := (Below.refl w1.heap.size w1).alloc (Nat.le_refl _) (Obj.cells #[.int .u8 (b0.toNat : Int), .int .u8 (b1.toNat : Int), .int .u8 (b2.toNat : Int), .int .u8 (b3.toNat : Int), .int .u8 (b4.toNat : Int), .int .u8 (b5.toNat : Int), .int .u8 (b6.toNat : Int), .int .u8 (b7.toNat : Int)] 95) |>.alloc (by simp) (Obj.cells #[.slice A n c, .slice (some ⟨w1.heap.size, 0, none⟩) 8 8] 28)
  have hR8 := (rd_block2 w1 #[.int .u8 (b0.toNat : Int), .int .u8 (b1.toNat : Int), .int .u8 (b2.toNat : Int), .int .u8 (b3.toNat : Int), .int .u8 (b4.toNat : Int), .int .u8 (b5.toNat : Int), .int .u8 (b6.toNat : Int), .int .u8 (b7.toNat : Int)] 95 _ rfl (by simp)).below ((Below.refl _ _).alloc (Nat.le_refl _) (Obj.cells #[.slice A n c, .slice (some ⟨w1.heap.size, 0, none⟩) 8 8] 28))
  refine (concat_any _ [.slice A n c, .slice (some ⟨w1.heap.size, 0, none⟩) 8 8] [l, [b0, b1, b2, b3, b4, b5, b6, b7]] 2 2 _ rfl (rd_block2 _ #[.slice A n c, .slice (some ⟨w1.heap.size, 0, none⟩) 8 8] 28 _ (by simp) (by simp))
    (Each.mk_cons (Bt.of_rd (hR1.below h1) HN.out hc) (Each.mk_cons (Bt.of_rd hR8 rfl (by decide)) (Each.nil _ _))) (by have := HN.out; simp; omega)).mono ?_
  rintro e w2 ⟨v, rfl, ho, hB2⟩
  go_wp2
  go_ret
  have hz := hB.size
  refine ⟨_, rfl, by rw [hS.out]; exact own_rebase ho (by simp; omega), (hB.trans (h1.mono hz)).trans (hB2.mono (by simp; omega))⟩
end Go.Proofs.Ytopppkafbbfobaa.W
