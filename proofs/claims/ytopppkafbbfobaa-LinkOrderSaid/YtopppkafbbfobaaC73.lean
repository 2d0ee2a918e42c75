/- link's packet.bytes. -/
import Derived.Test.YtopppkafbbfobaaC43
import Derived.Deep.RegionHeld3
import Derived.Deep.DrawnRows
namespace Go.Proofs.Ytopppkafbbfobaa.W
open Go.RowKit
attribute [local go_sem ↓] Go.wp_at_zero Go.wp_at_succ
theorem Bt.own {w : World} {base : Nat} {v : Value} {l : Bs} (h : w.ownsRow base 5 1 v l.length (bv l)) (hl : l.length ≤ 9223372036854775807) : ∃ A c, v = .slice A l.length c ∧ l.length ≤ c ∧ Rd w A (bv l) := by
  obtain ⟨A, c, e, hc, hR⟩ := Bt.of_own h hl
  exact ⟨A, c, e, hc, hR.rd⟩
theorem iv2 (s a : Int) : iv [s, a] = [.int .i64 s, .int .i64 a] := rfl
theorem encInts2_length (s a : Int) : (encInts [s, a]).length ≤ 27 := by
  have h1 := encInt_le9 s
  have h2 := encInt_le9 a
  have h3 := encInt_le9 (([s, a].length : Nat) : Int)
  simp only [encInts, List.length_append, List.flatMap_cons, List.flatMap_nil, List.length_nil]
  omega
theorem encBytes_length (m : Bs) : (encBytes m).length ≤ 9 + m.length := by
  have h3 := encInt_le9 ((m.length : Nat) : Int)
  simp only [encBytes, List.length_append]
  omega
/-- What came since a world: new blocks alone. -/
def Since (W0 w : World) : Prop := Below W0.heap.size W0 w
theorem Since.drew (W0 : World) : Since W0 W0.drew := (Below.refl _ _).drew
theorem Since.dr {W0 w : World} (h : Since W0 w) : Since W0 w.drew := ⟨h.os, h.tape, h.output, h.size, h.block⟩
theorem Since.undr {W0 w : World} (h : Since W0 w.drew) : Since W0 w := ⟨h.os, h.tape, h.output, h.size, h.block⟩
theorem Since.refl (W0 : World) : Since W0 W0 := Below.refl _ _
theorem Since.alloc {W0 w : World} (h : Since W0 w) (o : Obj) : Since W0 (w.alloc o) := Below.alloc h (Below.size h) o
theorem Since.call {W0 w w' : World} (h : Since W0 w) (k : Below w.heap.size w w') : Since W0 w' := below_trans h k (Below.size h)
theorem Since.rd {W0 w : World} {A : Option Addr} {xs : List Value} (h : Since W0 w) (hR : Rd W0 A xs) : Rd w A xs := hR.below h
theorem rd_alloc {w : World} {A : Option Addr} {xs : List Value} (h : Rd w A xs) (o : Obj) : Rd (w.alloc o) A xs := h.below ((Below.refl _ _).alloc (Nat.le_refl _) o)
set_option maxRecDepth 100000 in
set_option maxHeartbeats 1600000 in
theorem pktBytes_any (s a : Int) (hs : I64 s) (ha : I64 a) (A : Option Addr) (m : Bs) (n c : Nat) (w : World) (hn : n = m.length) (hR : Rd w A (bv m)) (hl : n ≤ 140737488300000) :
    Calls Try.prog 73 #[.agg #[.int .i64 s, .int .i64 a, .slice A n c]] w (RetB w (encPkt s a m)) := by
  have h27 := encInts2_length s a
  have h9 := encBytes_length m
  have hls : ([encInts [s, a], encBytes m]).flatten.length ≤ 140737488355000 := by simp; omega
  have hi27 : (encInts [s, a]).length ≤ 9223372036854775807 := by omega
  have hi9 : (encBytes m).length ≤ 9223372036854775807 := by omega
  have hml : m.length ≤ 140737488355000 := by omega
  have HI := hide (show ∀ x ∈ [s, a], I64 x from by simp; exact ⟨hs, ha⟩)
  have HN := hide hn
  clear h27 h9
  have hR0 : Rd (w.alloc (Obj.cells #[.int .i64 s, .int .i64 a, .slice A n c] 103)) (some ⟨w.heap.size, 0, none⟩) [.int .i64 s, .int .i64 a, .slice A n c] := rd_block2 w #[.int .i64 s, .int .i64 a, .slice A n c] 103 _ rfl (by simp)
  have hbw : Below w.heap.size w (w.alloc (Obj.cells #[.int .i64 s, .int .i64 a, .slice A n c] 103)) := (Below.refl _ _).alloc (Nat.le_refl _) _
  have HR := hide (hR.below hbw)
  have HB := hide hbw
  have KP : ∀ w', Since (w.alloc (Obj.cells #[.int .i64 s, .int .i64 a, .slice A n c] 103)) w' → w'.cell? ⟨w.heap.size, 0, none⟩ = some (.int .i64 s) ∧ w'.cell? ⟨w.heap.size, 1, none⟩ = some (.int .i64 a) ∧ w'.cell? ⟨w.heap.size, 2, none⟩ = some (.slice A n c) ∧ (convert 28 9 (.slice A n c)).run Try.prog w' = .ok (str m) w' ∧
      Since (w.alloc (Obj.cells #[.int .i64 s, .int .i64 a, .slice A n c] 103)) w' := fun w' h => by
    obtain ⟨b, off, e, hc⟩ := (h.rd hR0).2 (by simp)
    cases e
    exact ⟨hc 0 _ rfl, hc 1 _ rfl, hc 2 _ rfl, run_tostr A m n c (h.rd HR.out) hn, h⟩
  have HK := hide KP
  clear hn hR hR0 hbw KP
  go_enter Try.func73, Try.ntmps73
  go_wp2_with fail
  generalize w.alloc (Obj.cells #[.int .i64 s, .int .i64 a, .slice A n c] 103) = W0 at *
  go_region_held3 (fun w' => w'.cell? ⟨w.heap.size, 0, none⟩ = some (.int .i64 s) ∧ w'.cell? ⟨w.heap.size, 1, none⟩ = some (.int .i64 a) ∧ w'.cell? ⟨w.heap.size, 2, none⟩ = some (.slice A n c) ∧ (convert 28 9 (.slice A n c)).run Try.prog w' = .ok (str m) w' ∧ Since W0 w')
    (first
      | exact HK.out _ (Since.drew W0)
      | (go_split_ands; first | exact HK.out _ (Since.alloc ‹Since W0 _› _) | exact HK.out _ (Since.dr (Since.alloc (Since.undr ‹Since W0 _›) _)) | exact HK.out _ (Since.call ‹Since W0 _› hB24) | exact HK.out _ (Since.call ‹Since W0 _› hB22) | exact HK.out _ (Since.call ‹Since W0 _› hB68) | fail))
    (first
      | (go_at_call 24; refine (ints_any _ [s, a] 2 2 _ rfl (by first | exact rd_block2 _ #[.int .i64 s, .int .i64 a] 3 _ rfl (by simp) | exact (rd_block2 _ #[.int .i64 s, .int .i64 a] 3 _ rfl (by simp)).below hB22) HI.out (by omega)).mono ?_; rintro e w24 ⟨v24, rfl, ho24, hB24⟩; obtain ⟨A24, c24, rfl, hc24, hR24⟩ := Bt.own ho24 hi27)
      | (go_at_call 22; refine (bytes_any m hml _).mono ?_; rintro e w22 ⟨v22, rfl, ho22, hB22⟩; obtain ⟨A22, c22, rfl, hc22, hR22⟩ := Bt.own ho22 hi9)
      | (go_at_call 68; refine (concat_any _ [.slice A24 (encInts [s, a]).length c24, .slice A22 (encBytes m).length c22] [encInts [s, a], encBytes m] 2 2 _ rfl (rd_block2 _ #[.slice A24 (encInts [s, a]).length c24, .slice A22 (encBytes m).length c22] 28 _ rfl (by simp))
          (Each.mk_cons (Bt.of_rd (rd_alloc (by first | exact hR24 | exact hR24.below hB22 | exact (rd_alloc hR24 _).below hB22) _) rfl hc24) (Each.mk_cons (Bt.of_rd (rd_alloc (by first | exact hR22 | exact hR22.below hB24 | exact (rd_alloc hR22 _).below hB24) _) rfl hc22) (Each.nil _ _))) hls).mono ?_; rintro e w68 ⟨v, rfl, ho, hB68⟩))
  all_goals
    go_split_ands
    have hS : Since W0 w68 := by assumption
    have z0 := HB.out.size
    have z1 := hB24.size
    have z2 := hB22.size
    simp at z1 z2
    go_wp2
    go_ret
    exact ⟨_, rfl, by rw [show ([encInts [s, a], encBytes m] : List Bs).flatten = encPkt s a m from by simp [encPkt]] at ho; exact own_rebase ho (by simp; omega), HB.out.trans (Below.mono hS z0)⟩
end Go.Proofs.Ytopppkafbbfobaa.W
