/- The example of the section: lives. -/
import Derived.Test.YtopppkafbbfobaaM6
import Derived.Lib.SlBytesConst
namespace Go.Proofs.Ytopppkafbbfobaa.W
open Go.RowKit
theorem rd_one (W : World) (x : UInt8) : Rd (W.alloc (.cells #[.int .u8 (x.toNat : Int)] 5 (1, 2))) (some ⟨W.heap.size, 0, none⟩) (bv [x]) := by
  refine ⟨by simp [bv], fun _ => ⟨W.heap.size, 0, rfl, fun j u hu => ?_⟩⟩
  rw [Nat.zero_add, World.cell?_alloc_mark]
  simpa [bv] using hu
theorem in_fine (D : Nat → Prop) (g : Nat) (S : St) (A : Option Addr) (b : Bs) (n c : Nat) (w : World) (hS : S.Ok) (h : IsEnd D w g S) (hn : n = b.length) (hc : n ≤ c) (hl : n ≤ 17592186044416) (hR : Rd w A (bv b)) {ls : List Bs} {k : Nat} {T : St} (hi : S.inn b = (ls, k, T)) (hl2 : ls.length ≤ 9223372036854775807) :
    Calls Try.prog 50 #[.pointer (some ⟨g, 0, none⟩), .slice A n c] w fun e w' => ∃ v vs, e = .returned (.tuple #[v, .int .i64 (k : Int)]) ∧ Lst (fun k => Plus D w k ∧ k ≠ g) w' v vs ls ∧ IsEnd (Plus D w) w' g T ∧ Keeps D w w' :=
  (in_any D g S hS A b n c w h hn hc hl hR).mono fun e w' h' => by
    rw [hi] at h'
    obtain ⟨v, vs, h1, h2, h3, h4⟩ := h'
    obtain ⟨_, _, _, _, hE⟩ := h
    have hg := lt_of_block hE.blk
    exact ⟨v, vs, h1, (h2.lst hl2).mono fun k _ e => by
      rcases e with e | e
      · exact e
      · have := (h2.1.lt k e).1
        exact ⟨.inr this, by omega⟩, h3, h4⟩
set_option maxRecDepth 100000 in
set_option maxHeartbeats 6400000 in
theorem lives_any (w : World) : Calls Try.prog 53 #[] w fun e w' => e = .returned (.bool true) ∧ Below w.heap.size w w' := by
  have kc := fun (w : World) (C : Array Value) (n c : Nat) => Lib.run_convert_bytes_const (P := Try.prog) w 28 5 C n c Try.underlying28 Try.underlying5
  go_enter Try.func53, Try.ntmps53
  go_wp2_with fail
  refine (new_ok 2 9 w (by decide) (by decide)).mono ?_
  rintro e w1 ⟨ga, rfl, hA, hB1⟩
  go_wp2_with fail
  refine (new_ok 2 9 w1 (by decide) (by decide)).mono ?_
  rintro e w2 ⟨gb, rfl, hB, hB2⟩
  obtain ⟨f, S0⟩ : ∃ f2, Sys w f2 w2 ga gb xA0 xA0 (.slice none 0 0) [] [] :=
    ⟨ext (ext (fun _ => 9) w 0) w1 1, ((Base.start w).new hB1 0).new hB2 1, (hA.zfirst (f := fun _ => 9) (i := 0)).znew hB2, hB.zfirst, none, 0, rfl, Nat.le_refl _, RdIn.nil _ _ _, Each.nil _ _⟩
  clear hA hB hB1 hB2
  go_wp2_with fail
  obtain ⟨f, S1⟩ := S0.new ((Below.refl w2.heap.size w2).alloc (Nat.le_refl _) (.cells #[.int .u8 97] 5 (1, 2)))
  refine (send_fine _ ga xA0 _ [97] 1 1 _ okA0 S1.2.1 rfl (by decide) (rd_one w2 97) rfl).mono ?_
  rintro e v1 ⟨rfl, hE, hK⟩
  obtain ⟨f, S0⟩ := S1.left hE hK
  clear S1 hE hK
  go_wp2_with fail
  obtain ⟨f, S1⟩ := S0.new ((Below.refl v1.heap.size v1).alloc (Nat.le_refl _) (.cells #[.int .u8 98] 5 (1, 2)))
  refine (send_fine _ ga (xA0.send [97]) _ [98] 1 1 _ okA1 S1.2.1 rfl (by decide) (rd_one v1 98) rfl).mono ?_
  rintro e v2 ⟨rfl, hE, hK⟩
  obtain ⟨f, S0⟩ := S1.left hE hK
  clear S1 hE hK
  go_wp2_with fail
  obtain ⟨f, S1⟩ := S0.new ((Below.refl v2.heap.size v2).alloc (Nat.le_refl _) (.cells #[.int .u8 99] 5 (1, 2)))
  refine (send_fine _ ga ((xA0.send [97]).send [98]) _ [99] 1 1 _ okA2 S1.2.1 rfl (by decide) (rd_one v2 99) rfl).mono ?_
  rintro e v3 ⟨rfl, hE, hK⟩
  obtain ⟨f, S0⟩ := S1.left hE hK
  clear S1 hE hK
  go_wp2_with fail
  refine (out_any _ ga xA3 okA3 v3 S0.2.1).mono ?_
  rintro e w3 ⟨vp, vps, rfl, hr, hE, hK⟩
  have S0 : Sys w f v3 ga gb xA3 xA0 (.slice none 0 0) [] [] := S0
  obtain ⟨f, S1⟩ := S0.outLeft (by rw [x1]; decide) hr hE hK
  clear S0 hr hE hK
  rw [x1] at S1
  have S0 := S1
  clear S1
  obtain ⟨b0, o0, c0, A1, d1, e0, hc0, hcell1, hd1, hR1, _⟩ := S0.2.2.2.at (k := 1) (by decide)
  subst e0
  obtain ⟨n1, hn1⟩ : ∃ n, n = (pkt 9 2 0 [98]).length := ⟨_, rfl⟩
  have hcell : w3.cell? ⟨b0, o0 + 1, none⟩ = some (.slice A1 n1 d1) := by rw [hn1]; exact hcell1
  have hl1 : n1 ≤ 17592186044416 := by have := pkt_length 9 2 0 [98]; simp at this; omega
  have hd1' : n1 ≤ d1 := by rw [hn1]; exact hd1
  have HN := hide hn1
  clear hcell1 hn1 hd1
  go_wp2_with fail
  refine (in_fine _ gb xA0 A1 (pkt 9 2 0 [98]) n1 d1 _ okA0 S0.2.2.1 HN.out hd1' hl1 hR1.rd x2 (by decide)).mono ?_
  rintro e w4 ⟨vx, vxs, rfl, hx, hE, hK⟩
  obtain ⟨f, S1⟩ := S0.right hE hK
  obtain ⟨Ax, cx, ex, _, _, _⟩ := hx
  subst ex
  clear S0 hE hK HN hcell hR1 hl1 hd1'
  have S0 := S1
  clear S1
  obtain ⟨_, _, _, A1, d1, e0, _, hcell1, hd1, hR1, _⟩ := S0.2.2.2.at (k := 0) (by decide)
  cases e0
  obtain ⟨n1, hn1⟩ : ∃ n, n = (pkt 9 1 0 [97]).length := ⟨_, rfl⟩
  have hcell : w4.cell? ⟨b0, o0 + 0, none⟩ = some (.slice A1 n1 d1) := by rw [hn1]; exact hcell1
  rw [Nat.add_zero] at hcell
  have hl1 : n1 ≤ 17592186044416 := by have := pkt_length 9 1 0 [97]; simp at this; omega
  have hd1' : n1 ≤ d1 := by rw [hn1]; exact hd1
  have HN := hide hn1
  clear hcell1 hn1 hd1
  go_wp2_with fail
  refine (in_fine _ gb xB1 A1 (pkt 9 1 0 [97]) n1 d1 _ okB1 S0.2.2.1 HN.out hd1' hl1 hR1.rd x3 (by decide)).mono ?_
  rintro e w5 ⟨vy, vys, rfl, hy, hE, hK⟩
  obtain ⟨f, S1⟩ := S0.right hE hK
  clear S0 hE hK HN hcell hR1 hl1 hd1'
  have S0 := S1
  clear S1
  go_wp2_with fail
  refine (out_any _ gb xB2 okB2 _ S0.2.2.1).mono ?_
  rintro e w6 ⟨vq, vqs, rfl, hr, hE, hK⟩
  have hy6 := hy.stays (hK.stays fun k _ e e' => e.2 e')
  obtain ⟨f, S1⟩ := S0.outRight (by rw [x4]; decide) hr hE hK
  clear S0 hr hE hK hy
  rw [x4] at S1
  have S0 := S1
  clear S1
  obtain ⟨by_, oy, cy, Ay, dy, ey, _, hyc, _, hRy, _⟩ := hy6.at (k := 1) (by decide)
  subst ey
  have hyc' : w6.cell? ⟨by_, oy + 1, none⟩ = some (.slice Ay 1 dy) := hyc
  have hts := run_tostr (w := w6) Ay [98] 1 dy hRy.rd rfl
  obtain ⟨bq, oq, cq, Aq, dq, eq, _, hqc, hdq, hRq, _⟩ := S0.2.2.2.at (k := 0) (by decide)
  subst eq
  obtain ⟨n1, hn1⟩ : ∃ n, n = (pkt 9 0 2 []).length := ⟨_, rfl⟩
  have hcell : w6.cell? ⟨bq, oq + 0, none⟩ = some (.slice Aq n1 dq) := by rw [hn1]; exact hqc
  rw [Nat.add_zero] at hcell
  have hl1 : n1 ≤ 17592186044416 := by have := pkt_length 9 0 2 []; simp at this; omega
  have hd1' : n1 ≤ dq := by rw [hn1]; exact hdq
  have HN := hide hn1
  clear hqc hn1 hdq hyc hy6 hRy
  unfold str at hts
  go_wp2_with fail
  refine (in_fine _ ga xA3.quiet Aq (pkt 9 0 2 []) n1 dq _ okA3q S0.2.1 HN.out hd1' hl1 hRq.rd x5 (by decide)).mono ?_
  rintro e w7 ⟨vz, vzs, rfl, _, hE, hK⟩
  obtain ⟨f, S1⟩ := S0.left hE hK
  clear S0 hE hK HN hcell hRq hl1 hd1' hts hyc'
  have S0 := S1
  clear S1
  go_wp2_with fail
  refine (out_any _ ga xA4 okA4 _ S0.2.1).mono ?_
  rintro e w8 ⟨vp2, vps2, rfl, hr, hE, hK⟩
  obtain ⟨f, S1⟩ := S0.outLeft (by rw [x6]; decide) hr hE hK
  clear S0 hr hE hK
  rw [x6] at S1
  have S0 := S1
  clear S1
  go_wp2_with fail
  have hbl := (Below.refl w8.heap.size w8).alloc (Nat.le_refl _) (.cells #[.int .u8 99] 5 (1, 2))
  obtain ⟨f, S1⟩ := S0.new hbl
  clear S0
  refine (rBytes_any 3 0 ⟨by decide, by decide⟩ ⟨by decide, by decide⟩ _ [99] 1 1 _ rfl (rd_one w8 99) (by decide)).mono ?_
  rintro e w9 ⟨vb, rfl, hob, hBb⟩
  obtain ⟨Ab, cb, rfl, hcb, hRb⟩ := Bt.own hob (by have := encInts2_length 3 0; have := encBytes_length [99]; simp only [encPkt, List.length_append]; simp at *; omega)
  obtain ⟨f, S0⟩ := S1.new hBb
  clear S1
  go_wp2_with fail
  refine (rSeal_any 9 (by decide) Ab (encPkt 3 0 [99]) _ cb w9 rfl hRb (by have := encInts2_length 3 0; have := encBytes_length [99]; simp only [encPkt, List.length_append]; simp at *; omega)).mono ?_
  rintro e w10 ⟨vs, rfl, hos, hBs⟩
  obtain ⟨As, cs, rfl, hcs, hRs⟩ := Bt.own hos (by have := pkt_length 9 3 0 [99]; simp at this; exact Nat.le_trans this (by decide))
  obtain ⟨f, S1⟩ := S0.new hBs
  clear S0 hob hBb hos hBs hRb
  obtain ⟨bp, op, cp, Ap, dp, ep, hcp, hpc, hdp, hRp, _⟩ := S1.2.2.2.at (k := 0) (by decide)
  subst ep
  have hcell : w10.cell? ⟨bp, op, none⟩ = some (.slice Ap (pkt 9 3 0 [99]).length dp) := hpc
  have hRs' : Rd w10 As (bv (pkt 9 3 0 [99])) := hRs
  have hRp' : Rd w10 Ap (bv (pkt 9 3 0 [99])) := hRp.rd
  have es : (sealed 9 (encPkt 3 0 [99])).length = (pkt 9 3 0 [99]).length := rfl
  rw [es] at hcs ⊢
  clear hpc hRs hRp es hcs hcp hdp
  have hsame := same_any Ap As (pkt 9 3 0 [99]) (pkt 9 3 0 [99]) _ _ dp cs w10 rfl rfl hRp' hRs'
  rw [decide_eq_true rfl] at hsame
  have HS := hide hsame
  clear hsame hRp' hRs'
  generalize (pkt 9 3 0 [99]).length = n1 at *
  go_wp2_with fail
  refine HS.out.mono ?_
  rintro e w11 hq
  obtain ⟨rfl, hB11⟩ := hq.below
  obtain ⟨f, S0⟩ := S1.new hB11
  clear S1 HS hq hcell hB11
  go_wp2_with fail
  refine (waiting_any _ ga xA4.quiet _ okA5 S0.2.1).mono ?_
  rintro e w12 ⟨rfl, rfl⟩
  have hw : ((xA4.quiet.waiting : Nat) : Int) = 1 := rfl
  rw [hw]
  go_wp2_with fail
  refine (forged_any _ ga xA4.quiet _ S0.2.1).mono ?_
  rintro e w13 ⟨rfl, rfl⟩
  have hf : ((xA4.quiet.forged : Nat) : Int) = 0 := rfl
  rw [hf]
  go_wp2
  go_ret
  exact ⟨rfl, S0.1.1⟩
end Go.Proofs.Ytopppkafbbfobaa.W
