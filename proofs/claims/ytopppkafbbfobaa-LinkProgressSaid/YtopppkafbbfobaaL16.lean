/- LinkProgress: the walk. -/
import Derived.Test.YtopppkafbbfobaaC53
import Derived.Test.YtopppkafbbfobaaM8
import Derived.Test.YtopppkafbbfobaaA9
import Derived.Deep.RegionHeld3
import Derived.Deep.DeepCutAuto
namespace Go.Proofs.Ytopppkafbbfobaa.W
open Go.RowKit
attribute [local go_sem ↓] Go.wp_at_zero Go.wp_at_succ
theorem stg_step {n : Nat → Nat} {r k : Nat} {E : Nat → St} (hk : k < 2) (h : Stg n r k E) (hn : ∀ j, j < 2 → n j ≤ 900) : Stg n (r + (k + 1) / 2) ((k + 1) % 2) (upd (upd E k (E k).quiet) (1 - k) ((E (1 - k)).after (E k))) := by
  have hA := h.ok k hk
  have hB := h.ok (1 - k) (by omega)
  have hsA := h.sent k hk
  have ht := h.turn
  obtain ⟨g1, g2, g3, g4, g5, g6⟩ := after_got ht hA.win1
  have hmany : (E k).many ≤ (E k).sent.length := Nat.le_trans (Nat.min_le_left _ _) (Nat.sub_le _ _)
  have hsl : (E k).sent.length = n k := by rw [hsA, mss_length]
  have hnk := hn k hk
  have hBok : ((E (1 - k)).after (E k)).Ok := by
    rw [← fed_end]
    have h1 := out_length (E k) hA
    have h2 := ht.gotB
    exact fed_ok ht hB (by omega)
  have eS : ∀ j, j < 2 → j = k ∨ j = 1 - k := fun j hj => by omega
  have eo : upd (upd E k (E k).quiet) (1 - k) ((E (1 - k)).after (E k)) k = (E k).quiet := by rw [upd_other _ _ (by omega), upd_same]
  have e1 : upd (upd E k (E k).quiet) (1 - k) ((E (1 - k)).after (E k)) (1 - k) = (E (1 - k)).after (E k) := upd_same _ _ _
  have hat := after_turn ht
  generalize upd (upd E k (E k).quiet) (1 - k) ((E (1 - k)).after (E k)) = E' at *
  have h0 := h.g0
  have h1 := h.g1
  have ha := h.a1
  refine ⟨fun j hj => ?_, fun j hj => ?_, ?_, ?_, ?_, ?_⟩
  · rcases eS j hj with e | e
    · rw [e, eo]; exact ok_quiet hA
    · rw [e, e1]; exact hBok
  · rcases eS j hj with e | e
    · rw [e, eo]; exact hsA
    · rw [e, e1, g2]; exact h.sent _ (by omega)
  · obtain rfl | rfl : k = 0 ∨ k = 1 := by omega
    · show Turn (E' 1) (E' 0); rw [eo]; rw [show (1 : Nat) = 1 - 0 from rfl, e1]; exact hat
    · show Turn (E' 0) (E' 1); rw [eo]; rw [show (0 : Nat) = 1 - 1 from rfl, e1]; exact hat
  · obtain rfl | rfl : k = 0 ∨ k = 1 := by omega
    · rw [eo]; exact h0
    · have := g6 (n 1) r (by rw [hsl]; exact Nat.le_refl _) h0
      rw [show (0 : Nat) = 1 - 1 from rfl, e1]; exact this
  · obtain rfl | rfl : k = 0 ∨ k = 1 := by omega
    · have := g6 (n 0) r (by rw [hsl]; exact Nat.le_refl _) h1
      rw [show (1 : Nat) = 1 - 0 from rfl, e1]; exact this
    · rw [eo]; exact h1
  · obtain rfl | rfl : k = 0 ∨ k = 1 := by omega
    · have e2 : (E' 1).acked = (E 0).got := by rw [show (1 : Nat) = 1 - 0 from rfl, e1, g3]
      rw [e2]; exact h0
    · rw [eo]; exact ha
theorem stg_end {n : Nat → Nat} {r : Nat} {E : Nat → St} (h : Stg n (r + 1) 0 E) (h0 : n 0 ≤ r) (h1 : n 1 ≤ r) : (E 0).got = n 1 ∧ (E 1).got = n 0 ∧ (E 0).waiting = 0 ∧ (E 1).waiting = 0 := by
  have s0 : (E 0).sent.length = n 0 := by rw [h.sent 0 (by omega), mss_length]
  have s1 : (E 1).sent.length = n 1 := by rw [h.sent 1 (by omega), mss_length]
  have t1 := h.turn.at_
  have t2 := h.turn.gotB
  have t3 := h.turn.gotA
  have g0 := h.g0
  have g1 := h.g1
  have a1 := h.a1
  simp only [Nat.sub_zero] at t1 t2 t3
  unfold St.waiting
  omega
theorem stg_start {n : Nat → Nat} {win : Nat → Nat} {key : Nat} {E : Nat → St} (hk : key < 18446744073709551616) (h1 : ∀ j, 1 ≤ win j ∧ win j ≤ 16) (hn : ∀ j, j < 2 → n j ≤ 900) (he : ∀ j, j < 2 → E j = stP (win j) key (n j)) : Stg n 0 0 E := by
  refine ⟨fun j hj => ?_, fun j hj => ?_, ?_, by simp, by simp, by simp⟩
  · rw [he j hj]; exact stP_ok hk (h1 j).1 (h1 j).2 (hn j hj)
  · rw [he j hj]; rfl
  · show Turn (E 0) (E 1)
    rw [he 0 (by omega), he 1 (by omega)]
    exact ⟨rfl, rfl, .inl rfl, Nat.le_refl _, Nat.zero_le _, Nat.zero_le _, rfl, rfl⟩
theorem bv_u8 {i : Nat} (h : i < 256) : bv [UInt8.ofNat i] = [.int .u8 (i : Int)] := by
  simp [bv]
  omega
theorem run_eql_nil76 (W : World) (a : Option Addr) (n c : Nat) : (binOp .eql 76 (.slice a n c) (.slice none 0 0)).run Try.prog W = .ok (.bool a.isNone) W := Lib.run_eql_slice_nil W 76 57 a n c 0 0 Try.underlying76
/-- The greater of two integers, in a region that draws its order. -/
theorem step_max {ops : Array Oper} {o : Oper} {a : Act} {K : Act → World → Prop} {Q : Exit → Act → World → Prop} {E : Prop} {W : World} (hgd : o.guard = none) (s x : Operand)
    (ho : o.op = .call { callee := .builtin .max, args := #[s, x], argTypes := #[3, 3] }) (p r q : Int) (hs : a.eval s = .int .i64 p) (hx : a.eval x = .int .i64 r) (hq : (if p < r then r else p) = q)
    (h : K (a.put o.dst (.int .i64 q)) W) : if Region.wanted o (yielded ops a.tmps) = true then Oper.wp Try.prog o a W K Q else E := by
  have hw : Region.wanted o (yielded ops a.tmps) = true := by simp [Region.wanted, hgd]
  rw [if_pos hw]
  unfold Oper.wp execOp
  have hr : ∀ ts t, (Builtin.max_ ts t #[.int .i64 p, .int .i64 r]).run Try.prog W = .ok (.int .i64 q) W := fun ts t => by
    rw [← hq]
    simp [go_sem]
  simp only [ho, resolve, invoke, builtin, Sem.run_bind, Sem.run_pure, Result.andThen_ok, List.map_toArray, List.map_cons, List.map_nil, hs, hx, hr]
  exact h
set_option maxRecDepth 100000 in
set_option maxHeartbeats 6400000 in
theorem progress_any (x : Int) (hx : I64 x) (key : Nat) (hky : key < 18446744073709551616) (one two lost : Int) (h1 : I64 one) (h2 : I64 two) (h3 : I64 lost) (w : World) :
    Calls Try.prog 16 #[.int .i64 x, .int .u64 (key : Int), .int .i64 one, .int .i64 two, .int .i64 lost] w fun e w' => e = .returned (.bool true) ∧ Below w.heap.size w w' := by
  have hends := hide (ends_any x hx key w)
  have HI := hide (And.intro h1 (And.intro h2 h3))
  clear hx h1 h2 h3
  go_enter Try.func16, Try.ntmps16
  go_wp2_with fail
  refine hends.out.mono ?_
  rintro e w1 ⟨f, be, G, rfl, hT⟩
  have HT := hide hT
  clear hends hT
  have hq := fun W => run_eql_nil76 W (some ⟨be, 0, none⟩) 2 2
  go_wp2_with fail
  refine (around_any one HI.out.1 31 (by omega) (by omega) w1).mono ?_
  rintro e w' ⟨rfl, rfl⟩
  obtain ⟨n0, hn0⟩ : ∃ n0, n0 = mag one % 31 := ⟨_, rfl⟩
  have hn0b : n0 ≤ 30 := by have : n0 < 31 := by rw [hn0]; exact Nat.mod_lt _ (by omega)
                            omega
  rw [← hn0]
  clear hn0
  go_wp2_with fail
  refine (around_any two HI.out.2.1 31 (by omega) (by omega) w1).mono ?_
  rintro e w' ⟨rfl, rfl⟩
  obtain ⟨n1, hn1⟩ : ∃ n1, n1 = mag two % 31 := ⟨_, rfl⟩
  have hn1b : n1 ≤ 30 := by have : n1 < 31 := by rw [hn1]; exact Nat.mod_lt _ (by omega)
                            omega
  rw [← hn1]
  clear hn1 hq
  obtain ⟨n, hn⟩ : ∃ n : Nat → Nat, n = fun k => if k = 0 then n0 else n1 := ⟨_, rfl⟩
  have hn30 : ∀ k, n k ≤ 30 := fun k => by rw [hn]; dsimp only; split <;> omega
  have e0 : n0 = n 0 := by rw [hn]; rfl
  have e1 : n1 = n 1 := by rw [hn]; rfl
  have hHN := hide hn30
  rw [e0, e1]
  clear hn e0 e1 hn0b hn1b hn30
  go_upto_region 6 with fail
  have hbl := (Below.refl w1.heap.size w1).alloc (Nat.le_refl _) (ints2 n)
  have HTA : Hid (Two w (ext f w1 3) (w1.alloc (ints2 n)) be G (fun k => St.new (winOf x k) key)) := hide (HT.out.new hbl 3)
  have HNA : Hid (At (ext f w1 3) (w1.alloc (ints2 n)) 3 w1.heap.size (ints2 n)) := hide (At.made _ 3)
  obtain ⟨bm, hbm⟩ : ∃ bm, bm = w1.heap.size := ⟨_, rfl⟩
  have ew : w1.alloc (.cells #[.int .i64 (n 0 : Int), .int .i64 (n 1 : Int)] 3) = w1.alloc (ints2 n) := rfl
  rw [ew]
  rw [← hbm] at HNA ⊢
  generalize w1.alloc (ints2 n) = wA at *
  generalize ext f w1 3 = fA at *
  clear ew hbm hbl HT
  go_loopw [13] (fun u wr => ∃ (f : Nat → Nat) (E : Nat → St) (k : Nat), k ≤ 2 ∧ u = .int .i64 (k : Int) ∧ Hid (Two w f wr be G E) ∧ Hid (At f wr 3 bm (ints2 n)) ∧ Hid (∀ j, j < 2 → E j = stP (winOf x j) key (if j < k then n j else 0))) (fun u _ => 2 - (intOf u).toNat)
  case atStart => exact ⟨fA, _, 0, Nat.zero_le _, rfl, HTA, HNA, hide fun j _ => rfl⟩
  case round =>
    obtain ⟨f, E, k, hk2, rfl, hT, hN, hE⟩ := hrel
    by_cases hk : k < 2
    · have hk0 : (0 : Int) ≤ (k : Int) := by omega
      have hki : (k : Int) < 2 := by omega
      go_wp2_with fail
      go_loopw [14] (fun u wr => ∃ (f : Nat → Nat) (E : Nat → St) (i : Nat), i ≤ n k ∧ u = .int .i64 (i : Int) ∧ Hid (Two w f wr be G E) ∧ Hid (At f wr 3 bm (ints2 n)) ∧ Hid (∀ j, j < 2 → E j = stP (winOf x j) key (if j < k then n j else if j = k then i else 0))) (fun u _ => n k - (intOf u).toNat)
      case atStart => exact ⟨f, E, 0, Nat.zero_le _, rfl, hT, hN, hide fun j hj => by rw [hE.out j hj]; split <;> first | rfl | (split <;> rfl)⟩
      case round =>
        obtain ⟨f, E, i, hi, rfl, hT, hN, hE⟩ := hrel
        have hcm := hN.out.int hk
        have hcp := hT.out.cell hk
        have hnk := hHN.out k
        by_cases hin : i < n k
        · have hii : (i : Int) < (n k : Int) := by omega
          have hi30 : i < 30 := by omega
          have hw8 : IntKind.u8.wrap (i : Int) = (i : Int) := by rw [IntKind.wrap_u8]; omega
          go_wp2_with fail
          have hbl := (Below.refl wr.heap.size wr).alloc (Nat.le_refl _) (.cells #[.int .u8 (i : Int)] 5)
          have hT2 := hT.out.new hbl 9
          have hN2 := hN.out.new hbl 9
          have ek : E k = stP (winOf x k) key i := by rw [hE.out k hk, if_neg (Nat.lt_irrefl k), if_pos rfl]
          have hRb : Rd (wr.alloc (.cells #[.int .u8 (i : Int)] 5)) (some ⟨wr.heap.size, 0, none⟩) (bv [UInt8.ofNat i]) := by
            rw [bv_u8 (by omega)]
            exact rd_block2 wr #[.int .u8 (i : Int)] 5 _ rfl (by simp)
          have hEk := hT2.ends k hk
          rw [ek] at hEk
          have hsend := send_fine _ (G k) (stP (winOf x k) key i) _ [UInt8.ofNat i] 1 1 _ (stP_ok hky (winOf_bounds x k).1 (winOf_bounds x k).2 (by omega)) hEk rfl (by omega) hRb (stP_full (by omega) _)
          rw [stP_send] at hsend
          have HT2 := hide hT2
          have HN2 := hide hN2
          clear hcm hcp hT2 hN2 hRb hEk hbl ek
          with_reducible refine hsend.mono ?_
          rintro e wT ⟨rfl, hE3, hK3⟩
          have hT3 := hide (HT2.out.put hk hK3 hE3)
          have hN3 := hide (HN2.out.oth hK3 (by omega) k)
          have hE4 : Hid (∀ j, j < 2 → upd E k (stP (winOf x k) key (i + 1)) j = stP (winOf x j) key (if j < k then n j else if j = k then i + 1 else 0)) := hide fun j hj => by
            by_cases e : j = k
            · rw [e, upd_same, if_neg (Nat.lt_irrefl k), if_pos rfl]
            · rw [upd_other _ _ e, hE.out j hj, if_neg e, if_neg e]
          clear hsend hE3 hK3 HT2 HN2
          go_wp2_with fail
          go_roundw
          case rel => exact ⟨_, _, i + 1, by omega, by go_num, hT3, hN3, hE4⟩
          case measure => simp [intOf]; omega
        · obtain rfl : i = n k := by omega
          have hEn : Hid (∀ j, j < 2 → E j = stP (winOf x j) key (if j < k + 1 then n j else 0)) := hide fun j hj => by
            rw [hE.out j hj]
            by_cases e : j < k
            · rw [if_pos e, if_pos (by omega)]
            · rw [if_neg e]
              by_cases e2 : j = k
              · subst e2; rw [if_pos rfl, if_pos (by omega)]
              · rw [if_neg e2, if_neg (by omega)]
          go_wp2_with fail
          go_roundw
          case rel => exact ⟨f, E, k + 1, by omega, by go_num, hT, hN, hEn⟩
          case measure => simp [intOf]; omega
    · obtain rfl : k = 2 := by omega
      have hE2 : Hid (∀ j, j < 2 → E j = stP (winOf x j) key (n j)) := hide fun j hj => by rw [hE.out j hj, if_pos hj]
      clear hE
      clear hk2 hk HTA HNA
      go_upto_region 14 with fail
      go_loopw [15] (fun u wr => ∃ (f : Nat → Nat) (E : Nat → St) (i : Nat), i ≤ 5 ∧ u = .int .i64 (i : Int) ∧ Hid (Two w f wr be G E) ∧ Hid (At f wr 3 bm (ints2 n)) ∧ Hid (∀ j, j < 2 → E j = stP (winOf x j) key (n j))) (fun u _ => 5 - (intOf u).toNat)
      case atStart => exact ⟨f, E, 0, Nat.zero_le _, rfl, hT, hN, hE2⟩
      case round =>
        obtain ⟨f, E, i, hi, rfl, hT, hN, hE⟩ := hrel
        go_wp2_with fail
        refine (around_any lost HI.out.2.2 5 (by omega) (by omega) wr).mono ?_
        rintro e w' ⟨rfl, rfl⟩
        obtain ⟨m, hm⟩ : ∃ m, m = mag lost % 5 := ⟨_, rfl⟩
        have hm5 : m < 5 := by rw [hm]; exact Nat.mod_lt _ (by omega)
        rw [← hm]
        clear hm
        by_cases him : i < m
        · have hj2 : i % 2 < 2 := Nat.mod_lt _ (by omega)
          have hcp := hT.out.cell hj2
          have hrem : (i : Int).tmod 2 = ((i % 2 : Nat) : Int) := by rw [Int.tmod_eq_emod_of_nonneg (by omega)]; omega
          have hjj : ((i % 2 : Nat) : Int) < 2 := by omega
          have hj0 : (0 : Int) ≤ ((i % 2 : Nat) : Int) := by omega
          have ek := hE.out _ hj2
          have hEk := hT.out.ends _ hj2
          rw [ek] at hEk
          have hok : (stP (winOf x (i % 2)) key (n (i % 2))).Ok := stP_ok hky (winOf_bounds x _).1 (winOf_bounds x _).2 (Nat.le_trans (hHN.out _) (by omega))
          have hout := out_any _ (G (i % 2)) _ hok wr hEk
          clear ek hEk hok
          go_wp2_with fail
          with_reducible refine hout.mono ?_
          rintro e wT ⟨vo, vos, rfl, _, hE3, hK3⟩
          have hT3 := hide (hT.out.out hj2 hK3 hE3 9)
          have hN3 := hide (hN.out.oth (hK3.zone (hT.out.ends _ hj2).dg) (by omega) 9)
          have hE4 : Hid (∀ j, j < 2 → upd E (i % 2) (stP (winOf x (i % 2)) key (n (i % 2))).quiet j = stP (winOf x j) key (n j)) := hide fun j hj => by
            by_cases e : j = i % 2
            · rw [e, upd_same]; rfl
            · rw [upd_other _ _ e, hE.out j hj]
          clear hout hE3 hK3
          go_wp2_with fail
          go_roundw
          case rel => (repeat apply Exists.intro); exact ⟨⟨_, _, i + 1, by omega, by go_num, hT3, hN3, hE4⟩, rfl⟩
          case measure => simp [intOf]; omega
        · have him' : decide ((i : Int) < (m : Int)) = false := by rw [decide_eq_false_iff_not]; omega
          go_upto_region 19 with fail
          have hbl := (Below.refl wr.heap.size wr).alloc (Nat.le_refl _) (ints2 fun _ => 0)
          have HT4 : Hid (Two w (ext f wr 4) (wr.alloc (ints2 fun _ => 0)) be G E) := hide (hT.out.new hbl 4)
          have HN4 : Hid (At (ext f wr 4) (wr.alloc (ints2 fun _ => 0)) 3 bm (ints2 n)) := hide (hN.out.new hbl 4)
          have HG4 : Hid (At (ext f wr 4) (wr.alloc (ints2 fun _ => 0)) 4 wr.heap.size (ints2 fun _ => 0)) := hide (At.made _ 4)
          have HS4 := hide (stg_start hky (winOf_bounds x) (fun j _ => Nat.le_trans (hHN.out j) (by omega)) hE.out)
          have HGE : Hid (∀ j, j < 2 → (fun _ => 0 : Nat → Nat) j = (E j).got) := hide fun j hj => by rw [hE.out j hj]; rfl
          obtain ⟨bg, hbg⟩ : ∃ bg, bg = wr.heap.size := ⟨_, rfl⟩
          have ew : wr.alloc (.cells #[.int .i64 0, .int .i64 0] 3) = wr.alloc (ints2 fun _ => 0) := rfl
          rw [ew]
          rw [← hbg] at HG4 ⊢
          generalize wr.alloc (ints2 fun _ => 0) = w4 at *
          generalize ext f wr 4 = f4 at *
          obtain ⟨M, hM⟩ : ∃ M, M = max (n 0) (n 1) := ⟨_, rfl⟩
          have HM := hide hM
          have hMb : M ≤ 30 := by have h0 := hHN.out 0; have h1 := hHN.out 1; omega
          clear ew hbg hbl hM hE hE2 hT hN him him' hi
          go_loopw [17] (fun u wr => ∃ (f : Nat → Nat) (E : Nat → St) (got : Nat → Nat) (r : Nat), r ≤ M + 1 ∧ u = .int .i64 (r : Int) ∧ Hid (Two w f wr be G E) ∧ Hid (At f wr 3 bm (ints2 n)) ∧ Hid (At f wr 4 bg (ints2 got)) ∧ Hid (∀ j, j < 2 → got j = (E j).got) ∧ Hid (Stg n r 0 E)) (fun u _ => M + 1 - (intOf u).toNat)
          case atStart => exact ⟨f4, E, _, 0, Nat.zero_le _, rfl, HT4, HN4, HG4, HGE, HS4⟩
          case round =>
            obtain ⟨f, E, got, r, hr, rfl, hT, hN, hG, hgE, hS⟩ := hrel
            have hc0 := hN.out.int (k := 0) (by omega)
            have hc1 := hN.out.int (k := 1) (by omega)
            have hmx : Hid ((if (n 0 : Int) < (n 1 : Int) then (n 1 : Int) else (n 0 : Int)) = (M : Int)) := hide (by have := HM.out; split <;> omega)
            by_cases hrM : r ≤ M
            · have hrM' : (r : Int) ≤ (M : Int) := by omega
              go_wp2_with fail
              go_region_held3 (fun w' => w'.cell? ⟨bm, 0, none⟩ = some (.int .i64 (n 0 : Int)) ∧ w'.cell? ⟨bm, 1, none⟩ = some (.int .i64 (n 1 : Int))) (first | exact ⟨hc0, hc1⟩ | fail) (first | (refine step_max (by rfl) _ _ (by rfl) _ _ (M : Int) (by rfl) (by rfl) hmx.out ?_) | fail)
              have hdr : Below wr.heap.size wr wr.drew := since_dr (Below.refl _ _)
              have hT2 := hide (hT.out.new hdr 9)
              have hN2 := hide (hN.out.new hdr 9)
              have hG2 := hide (hG.out.new hdr 9)
              have hS2 : Hid (Stg n (r + 0 / 2) (0 % 2) E) := hS
              clear hc0 hc1 hmx hdr hT hN hG hS
              go_upto_region 22 with fail
              go_loopw [18] (fun u wr => ∃ (f : Nat → Nat) (E : Nat → St) (got : Nat → Nat) (k : Nat), k ≤ 2 ∧ u = .int .i64 (k : Int) ∧ Hid (Two w f wr be G E) ∧ Hid (At f wr 3 bm (ints2 n)) ∧ Hid (At f wr 4 bg (ints2 got)) ∧ Hid (∀ j, j < 2 → got j = (E j).got) ∧ Hid (Stg n (r + k / 2) (k % 2) E)) (fun u _ => 2 - (intOf u).toNat)
              case atStart => exact ⟨_, E, got, 0, Nat.zero_le _, rfl, hT2, hN2, hG2, hgE, hS2⟩
              case round =>
                obtain ⟨f, E, got, k, hk2, rfl, hT, hN, hG, hgE, hS⟩ := hrel
                by_cases hk : k < 2
                · have hk0 : (0 : Int) ≤ (k : Int) := by omega
                  have hki : (k : Int) < 2 := by omega
                  have hS' : Hid (Stg n r k E) := by
                    have := hS.out
                    rw [show r + k / 2 = r from by omega, show k % 2 = k from by omega] at this
                    exact this
                  have hcp := hT.out.cell hk
                  have hokA := hide (hS'.out.ok k hk)
                  have hout := out_any _ (G k) _ hokA.out wr (hT.out.ends k hk)
                  clear hS
                  go_wp2_with fail
                  with_reducible refine hout.mono ?_
                  rintro e w5 ⟨vp, vps, rfl, hrp, hE3, hK3⟩
                  have hol := out_length _ hokA.out
                  have hdg := (hT.out.ends k hk).dg
                  have hT3 := hide (hT.out.out hk hK3 hE3 5)
                  have hN3 := hide (hN.out.oth (hK3.zone hdg) (by omega) 5)
                  have hG3 := hide (hG.out.oth (hK3.zone hdg) (by omega) 5)
                  have hL3 := hide ((hrp.fresh (by omega)).zown (f := f) (i := 5))
                  obtain ⟨Ap, cp, rfl, hcp2, _, _⟩ := hL3.out
                  obtain ⟨q, hq⟩ : ∃ q, q = (E k).out.length := ⟨_, rfl⟩
                  have hL3' := hL3
                  rw [← hq] at hcp2 hol hL3 ⊢
                  have HQ := hide hq
                  clear hout hrp hE3 hK3 hdg hcp hq hT hN hG hL3'
                  go_upto_region 26 with fail
                  have ht : 1 - k < 2 := by omega
                  have htk : 1 - k ≠ k := by omega
                  obtain ⟨t, htd⟩ : ∃ t, t = 1 - k := ⟨_, rfl⟩
                  rw [← htd] at ht htk
                  have hsub : (1 : Int) - (k : Int) = (t : Int) := by omega
                  have ht0 : (0 : Int) ≤ (t : Int) := by omega
                  have hsw : IntKind.i64.wrap ((1 : Int) - (k : Int)) = (t : Int) := by rw [IntKind.wrap_i64]; omega
                  have hwt : IntKind.i64.wrap (t : Int) = (t : Int) := by rw [IntKind.wrap_i64]; omega
                  have hti : (t : Int) < 2 := by omega
                  have hnk := hHN.out k
                  obtain ⟨EF, hEF⟩ : ∃ EF : Nat → Nat → St, EF = fun i => upd (upd E k (E k).quiet) t ((E t).fed (E k) i) := ⟨_, rfl⟩
                  have HF1 : Hid (∀ i, EF i t = (E t).fed (E k) i) := hide fun i => by rw [hEF]; exact upd_same _ _ _
                  have HF2 : Hid (∀ i, EF i k = (E k).quiet) := hide fun i => by rw [hEF]; dsimp only; rw [upd_other _ _ (Ne.symm htk), upd_same]
                  have HF3 : Hid (∀ i, upd (EF i) t ((E t).fed (E k) (i + 1)) = EF (i + 1)) := hide fun i => by rw [hEF]; exact upd_upd _ _ _ _
                  have HF0 : Hid (EF 0 = upd E k (E k).quiet) := hide (by
                    rw [hEF]
                    funext j
                    dsimp only
                    rw [fed_zero]
                    by_cases e : j = t
                    · rw [e, upd_same, upd_other _ _ htk]
                    · rw [upd_other _ _ e])
                  have HF4 : Hid (Stg n (r + (k + 1) / 2) ((k + 1) % 2) (EF q)) := hide (by
                    have := stg_step hk hS'.out (fun j _ => Nat.le_trans (hHN.out j) (by omega))
                    rw [← htd, ← fed_end, ← HQ.out] at this
                    rw [hEF]
                    exact this)
                  have HTD := hide htd
                  have HTK := hide htk
                  have hgF : Hid (∀ j, j < 2 → got j = (EF 0 j).got) := hide fun j hj => by
                    rw [HF0.out, hgE.out j hj]
                    unfold upd
                    split
                    · rename_i e; rw [e]; rfl
                    · rfl
                  rw [← HF0.out] at hT3
                  clear htd htk hEF hgE
                  go_loopw [20] (fun u wr => ∃ (f : Nat → Nat) (got : Nat → Nat) (i : Nat), i ≤ q ∧ u = .int .i64 (i : Int) ∧ Hid (Two w f wr be G (EF i)) ∧ Hid (At f wr 3 bm (ints2 n)) ∧ Hid (At f wr 4 bg (ints2 got)) ∧ Hid (∀ j, j < 2 → got j = (EF i j).got) ∧ Hid (Lst (Z f wr 5) wr (.slice Ap q cp) vps (E k).out)) (fun u _ => q - (intOf u).toNat)
                  case atStart => exact ⟨_, got, 0, Nat.zero_le _, rfl, hT3, hN3, hG3, hgF, hL3⟩
                  case round =>
                    clear hT3 hN3 hG3 hgF hL3
                    obtain ⟨f, got, i, hi, rfl, hT, hN, hG, hgE, hL⟩ := hrel
                    by_cases hiq : i < q
                    · have hi0 : (0 : Int) ≤ (i : Int) := by omega
                      have hii : (i : Int) < (q : Int) := by omega
                      have hdr : Below wr.heap.size wr wr.drew := since_dr (Below.refl _ _)
                      obtain ⟨pb, po, _, Ai, ci, ev, _, hpc, hci, hRi, hzp⟩ := hL.out.at (k := i) (by rw [← HQ.out]; exact hiq)
                      rw [← HQ.out] at ev
                      cases ev
                      obtain ⟨pn, hpn⟩ : ∃ pn, pn = ((E k).out.getD i []).length := ⟨_, rfl⟩
                      rw [← hpn] at hpc hci
                      have hokA := hokA
                      have hTD := hide (hT.out.new hdr 9)
                      have hND := hide (hN.out.new hdr 9)
                      have hGD := hide (hG.out.new hdr 9)
                      have hLD := hide (hL.out.nw hdr 9)
                      have htu := hS'.out.turn
                      rw [← HTD.out] at htu
                      obtain ⟨ls, hinn, hls1, hgot, hel⟩ := fed_step htu hokA.out (i := i) (by rw [← HQ.out]; exact hiq)
                      have hEi := hTD.out.ends t ht
                      rw [HF1.out i] at hEi
                      have hsl : (E k).sent.length = n k := by rw [hS'.out.sent k hk, mss_length]
                      have hokB : ((E t).fed (E k) i).Ok := fed_ok htu (hS'.out.ok t ht) (by have := htu.gotB; omega)
                      have hpl : pn ≤ 17592186044416 := by
                        rw [hpn]
                        obtain ⟨s', a', m', e1, e2, _⟩ := flight_out hokA.out (pk := (E k).out.getD i []) (by rw [List.getD_eq_getElem?_getD, List.getElem?_eq_getElem (by rw [← HQ.out]; exact hiq)]; exact List.getElem_mem _)
                        rw [e1]
                        have := pkt_length (E k).key s' a' m'
                        omega
                      have f50 := hide (in_fine _ (G t) ((E t).fed (E k) i) Ai ((E k).out.getD i []) pn ci wr.drew hokB hEi hpn hci hpl (show Rd wr.drew Ai _ from hRi.rd) hinn (by omega))
                      have hcp := hT.out.cell ht
                      have HKP : Hid (∀ w', Keeps (Z (ext f wr 9) wr.drew t) wr.drew w' → w'.cell? ⟨be, t, none⟩ = some (.pointer (some ⟨G t, 0, none⟩)) ∧ w'.cell? ⟨pb, po + i, none⟩ = some (.slice Ai pn ci)) := hide fun w' h => by
                        have hz1 := hTD.out.row.1
                        have hz2 : Z (ext f wr 9) wr.drew 5 pb := Z.old hzp (Nat.le_refl _)
                        refine ⟨(h.cell (p := ⟨be, t, none⟩) hz1.2 fun e => ?_).trans hcp, (h.cell (p := ⟨pb, po + i, none⟩) hz2.2 fun e => ?_).trans hpc⟩
                        · have := hz1.1.symm.trans e.1; omega
                        · have := hz2.1.symm.trans e.1; omega
                      have HEL := hide hel
                      have HGO := hide hgot
                      have HTU := hide htu
                      clear hinn hEi hokB hpl hpn hRi hT hN hG hL hci hdr htu hel hgot
                      go_wp2_with fail
                      go_region_held3 (fun w' => w'.cell? ⟨be, t, none⟩ = some (.pointer (some ⟨G t, 0, none⟩)) ∧ w'.cell? ⟨pb, po + i, none⟩ = some (.slice Ai pn ci))
                        (first
                          | exact ⟨hcp, hpc⟩
                          | exact HKP.out _ hK50
                          | fail)
                        (first
                          | (go_at_call 50; refine f50.out.mono ?_; rintro e w50 ⟨vx, vxs, rfl, hx50, hE50, hK50⟩)
                          | fail)
                      have hT5 := hTD.out.put ht hK50 hE50
                      rw [HF3.out i] at hT5
                      have hT5 := hide hT5
                      have hN5 := hide (hND.out.oth hK50 (by omega) t)
                      have hG5 := hide (hGD.out.oth hK50 (by omega) t)
                      have hL5 := hide (hLD.out.oth hK50 (by omega) t)
                      have hX5 := hide (hx50.mono fun k hk e => Z.plus (f := ext f wr 9) e.1 hk)
                      obtain ⟨Ax, cx, rfl, hcx, _, _⟩ := hX5.out
                      obtain ⟨m, hm⟩ : ∃ m, m = ls.length := ⟨_, rfl⟩
                      have hX5' := hX5
                      rw [← hm] at hX5 hcx hls1 HGO ⊢
                      have HMM := hide hm
                      have hgt : Hid (got t = ((E t).fed (E k) i).got + 0 ∧ got k = (E k).got) := hide ⟨by rw [hgE.out t ht, HF1.out, Nat.add_zero], by rw [hgE.out k hk, HF2.out]; rfl⟩
                      clear f50 hE50 hK50 hx50 hm hX5' HKP hcp hpc hTD hND hGD hLD hgE
                      go_upto_region 32 with fail
                      go_loopw [23] (fun u wr => ∃ (f : Nat → Nat) (got : Nat → Nat) (j : Nat), j ≤ m ∧ u = .int .i64 (j : Int) ∧ Hid (Two w f wr be G (EF (i + 1))) ∧ Hid (At f wr 3 bm (ints2 n)) ∧ Hid (At f wr 4 bg (ints2 got)) ∧ Hid (got t = ((E t).fed (E k) i).got + j ∧ got k = (E k).got) ∧ Hid (Lst (Z f wr 5) wr (.slice (some ⟨pb, po, none⟩) q cp) vps (E k).out) ∧ Hid (Lst (Z f wr t) wr (.slice Ax m cx) vxs ls)) (fun u _ => m - (intOf u).toNat)
                      case atStart => exact ⟨_, got, 0, Nat.zero_le _, rfl, hT5, hN5, hG5, hgt, hL5, hX5⟩
                      case round =>
                        clear hT5 hN5 hG5 hgt hL5 hX5
                        obtain ⟨f, got, j, hj, rfl, hT, hN, hG, hgt, hL, hX⟩ := hrel
                        by_cases hjm : j < m
                        · have hj0 : (0 : Int) ≤ (j : Int) := by omega
                          have hji : (j : Int) < (m : Int) := by omega
                          obtain ⟨xb, xo, _, Aj, cj, ev, _, hxc, hcj, hRj, hzx⟩ := hX.out.at (k := j) (by rw [← HMM.out]; exact hjm)
                          rw [← HMM.out] at ev
                          cases ev
                          obtain ⟨hle, hlt⟩ := HEL.out j (by rw [← HMM.out]; exact hjm)
                          rw [hle, hS'.out.sent k hk, mss_get (by rw [← hsl]; exact hlt)] at hxc hcj hRj
                          have hgi : got t = ((E t).fed (E k) i).got + j := hgt.out.1
                          have hg256 : got t < 256 := by omega
                          rw [← hgi, bv_u8 hg256] at hRj
                          obtain ⟨yb, yo, rfl, hzy, hyc⟩ := hRj.2 (by simp)
                          have hyc0 : wr.cell? ⟨yb, yo, none⟩ = some (.int .u8 (got t : Int)) := by
                            have := hyc 0 _ rfl
                            rwa [Nat.add_zero] at this
                          have hxc1 : wr.cell? ⟨xb, xo + j, none⟩ = some (.slice (some ⟨yb, yo, none⟩) 1 cj) := hxc
                          have hcg := hG.out.int ht
                          have hfg := hG.out.free t
                          have hg0 : (0 : Int) ≤ (got t : Int) := by omega
                          have hg2 : (got t : Int) < 256 := by omega
                          have hwg : IntKind.i64.wrap (got t : Int) = (got t : Int) := by rw [IntKind.wrap_i64]; omega
                          have hwg1 : IntKind.i64.wrap ((got t : Int) + 1) = (got t : Int) + 1 := by rw [IntKind.wrap_i64]; omega
                          have hne : ((got t : Int) != (got t : Int)) = false := by simp
                          clear hxc hyc hRj hle hlt hgi
                          go_wp2_with fail
                          go_region_held3 (fun w' => w'.cell? ⟨xb, xo + j, none⟩ = some (.slice (some ⟨yb, yo, none⟩) 1 cj) ∧ w'.cell? ⟨yb, yo, none⟩ = some (.int .u8 (got t : Int)) ∧ w'.cell? ⟨bg, t, none⟩ = some (.int .i64 (got t : Int)))
                            (first
                              | exact ⟨hxc1, hyc0, hcg⟩
                              | fail)
                            (fail)
                          have hdr : Below wr.heap.size wr wr.drew := since_dr (Below.refl _ _)
                          have hcg2 : wr.drew.cell? ⟨bg, t, none⟩ = some (.int .i64 (got t : Int)) := hcg
                          have hfg2 : wr.drew.frozen? ⟨bg, t, none⟩ = false := hfg
                          have hTD := hT.out.new hdr 9
                          have hND := hN.out.new hdr 9
                          have hGD := hG.out.new hdr 9
                          have hLD := hL.out.nw hdr 9
                          have hXD := hX.out.nw hdr 9
                          have hKs := keeps_set hGD.1 t (.int .i64 ((got t + 1 : Nat) : Int))
                          have hG6 := hGD.setInt ht (got t + 1) 9
                          have hT6 := hTD.oth (by omega) (by omega) hKs 9
                          have hN6 := hND.oth hKs (by omega) 9
                          have hL6 := hLD.oth hKs (by omega) 9
                          have hX6 := hXD.oth hKs (by omega) 9
                          have hgt6 : Hid (upd got t (got t + 1) t = ((E t).fed (E k) i).got + (j + 1) ∧ upd got t (got t + 1) k = (E k).got) := hide ⟨by rw [upd_same, hgt.out.1]; omega, by rw [upd_other _ _ (Ne.symm HTK.out)]; exact hgt.out.2⟩
                          rw [Int.natCast_add] at hG6 hT6 hN6 hL6 hX6
                          have hG6 := hide hG6
                          have hT6 := hide hT6
                          have hN6 := hide hN6
                          have hL6 := hide hL6
                          have hX6 := hide hX6
                          clear hKs hTD hND hGD hLD hXD hdr hcg hfg hxc1 hyc0 hT hN hG hL hX hgt
                          go_wp2_with fail
                          go_roundw
                          case rel => exact ⟨_, _, j + 1, by omega, by go_num, hT6, hN6, hG6, hgt6, hL6, hX6⟩
                          case measure => simp [intOf]; omega
                        · obtain rfl : j = m := by omega
                          have hgE2 : Hid (∀ j, j < 2 → got j = (EF (i + 1) j).got) := hide fun j' hj' => by
                            have h2 := hgt.out
                            have h1 := HTD.out
                            by_cases e : j' = t
                            · rw [e, HF1.out, HGO.out, h2.1]
                            · have : j' = k := by omega
                              rw [this, HF2.out, h2.2]; rfl
                          go_wp2_with fail
                          go_roundw
                          case rel => exact ⟨f, got, i + 1, by omega, by go_num, hT, hN, hG, hgE2, hL⟩
                          case measure => simp [intOf]; omega
                    · obtain rfl : i = q := by omega
                      go_wp2_with fail
                      go_roundw
                      case rel => exact ⟨f, EF i, got, k + 1, by omega, by go_num, hT, hN, hG, hgE, HF4⟩
                      case measure => simp [intOf]; omega
                · obtain rfl : k = 2 := by omega
                  go_wp2_with fail
                  go_roundw
                  case rel => exact ⟨f, E, got, r + 1, by omega, by go_num, hT, hN, hG, hgE, hS⟩
                  case measure => simp [intOf]; omega
            · obtain rfl : r = M + 1 := by omega
              have hrM' : decide (((M + 1 : Nat) : Int) ≤ (M : Int)) = false := by rw [decide_eq_false_iff_not]; omega
              rw [Int.natCast_add] at hrM'
              obtain ⟨hg0, hg1, hw0, hw1⟩ := stg_end hS.out (by have := HM.out; omega) (by have := HM.out; omega)
              go_wp2_with fail
              go_region_held3 (fun w' => w'.cell? ⟨bm, 0, none⟩ = some (.int .i64 (n 0 : Int)) ∧ w'.cell? ⟨bm, 1, none⟩ = some (.int .i64 (n 1 : Int))) (first | exact ⟨hc0, hc1⟩ | fail) (first | (refine step_max (by rfl) _ _ (by rfl) _ _ (M : Int) (by rfl) (by rfl) hmx.out ?_) | fail)
              have hdr2 : Below wr.heap.size wr wr.drew.drew := since_dr (since_dr (Below.refl _ _))
              have hT2 := hT.out.new hdr2 9
              have hG0 := hG.out.int (k := 0) (by omega)
              have hG1 := hG.out.int (k := 1) (by omega)
              rw [hgE.out 0 (by omega), hg0] at hG0
              rw [hgE.out 1 (by omega), hg1] at hG1
              have hP0 := hT.out.cell (k := 0) (by omega)
              have hP1 := hT.out.cell (k := 1) (by omega)
              have f56a := waiting_any _ (G 0) (E 0) wr.drew.drew (hS.out.ok 0 (by omega)) (hT2.ends 0 (by omega))
              have f56b := waiting_any _ (G 1) (E 1) wr.drew.drew (hS.out.ok 1 (by omega)) (hT2.ends 1 (by omega))
              rw [hw0] at f56a
              rw [hw1] at f56b
              have F56a := hide f56a
              have F56b := hide f56b
              have he0 : ((n 0 : Int) == (n 0 : Int)) = true := by simp
              have he1 : ((n 1 : Int) == (n 1 : Int)) = true := by simp
              have HBW := hide hT.out.base.1
              have HDR2 := hide hdr2
              clear hT2 f56a f56b hg0 hg1 hw0 hw1 hdr2
              go_wp2_with fail
              go_region_held3 (fun w' => w'.cell? ⟨bg, 0, none⟩ = some (.int .i64 (n 1 : Int)) ∧ w'.cell? ⟨bg, 1, none⟩ = some (.int .i64 (n 0 : Int)) ∧ w'.cell? ⟨bm, 0, none⟩ = some (.int .i64 (n 0 : Int)) ∧ w'.cell? ⟨bm, 1, none⟩ = some (.int .i64 (n 1 : Int)) ∧ w'.cell? ⟨be, 0, none⟩ = some (.pointer (some ⟨G 0, 0, none⟩)) ∧ w'.cell? ⟨be, 1, none⟩ = some (.pointer (some ⟨G 1, 0, none⟩)))
                (first
                  | exact ⟨hG0, hG1, hc0, hc1, hP0, hP1⟩
                  | exact ⟨(hB53.cell (p := ⟨bg, 0, none⟩) hG.out.1.2).trans hG0, (hB53.cell (p := ⟨bg, 1, none⟩) hG.out.1.2).trans hG1, (hB53.cell (p := ⟨bm, 0, none⟩) hN.out.1.2).trans hc0, (hB53.cell (p := ⟨bm, 1, none⟩) hN.out.1.2).trans hc1, (hB53.cell (p := ⟨be, 0, none⟩) hT.out.row.1.2).trans hP0, (hB53.cell (p := ⟨be, 1, none⟩) hT.out.row.1.2).trans hP1⟩
                  | fail)
                (first
                  | (go_at_call 56; refine F56a.out.mono ?_; rintro e w56 ⟨rfl, rfl⟩)
                  | (go_at_call 56; refine F56b.out.mono ?_; rintro e w56 ⟨rfl, rfl⟩)
                  | (go_at_call 53; refine (lives_any _).mono ?_; rintro e w53 ⟨rfl, hB53⟩)
                  | fail)
              go_wp2
              go_ret
              exact ⟨rfl, HBW.out.trans ((since_call HDR2.out hB53).mono HBW.out.size)⟩
end Go.Proofs.Ytopppkafbbfobaa.W
