/- The reference's GetInt decodes an integer at the beginning of a byte sequence: it answers as wire.GetInt does. -/
import Derived.Test.YtopppkafbbfobaaC21
import Derived.Test.YtopppkafbbfobaaC18
import Derived.Test.YtopppkafbbfobaaB3
import Derived.Deep.RegionWith
namespace Go.Proofs.Ytopppkafbbfobaa.W
open Go.RowKit

theorem rd_take {w : World} {A : Option Addr} {l : List UInt8} (h : Rd w A (bv l)) (k : Nat) : Rd w A (bv (l.take k)) := by
  have e : bv (l.take k) = (bv l).take k := by simp [bv, List.map_take]
  rw [e]
  refine ⟨Nat.le_trans (by rw [List.length_take]; exact Nat.min_le_right _ _) h.1, fun h0 => ?_⟩
  obtain ⟨b, off, hA, hc⟩ := h.2 (by rw [List.length_take] at h0; omega)
  refine ⟨b, off, hA, fun j u hu => hc j u ?_⟩
  rw [List.getElem?_take] at hu
  split at hu
  · exact hu
  · cases hu
theorem Rd.drew {w : World} {A : Option Addr} {xs : List Value} (h : Rd w A xs) : Rd w.drew A xs := h
theorem below_of_drew {w w' : World} {B : Nat} (h : Below B w.drew w') : Below B w w' := ⟨h.os, h.tape, h.output, h.size, h.block⟩
/-- A comparison that says no. -/
theorem noo {f : FuncId} {args : Array Value} {w : World} {b : Bool} (h : Calls Try.prog f args w (Quiet b w)) (hb : b = false) : Calls Try.prog f args w fun e w' => e = .returned (.bool false) ∧ Below w.heap.size w w' := by
  subst hb
  exact h.mono fun e w' h => h.below
/-- What a call leaves that only answers; it may make memory. -/
def Ans (w : World) (v : Value) (e : Ending) (w' : World) : Prop := e = .returned v ∧ Below w.heap.size w w'

set_option maxRecDepth 100000 in
set_option maxHeartbeats 400000 in
theorem refGetInt_nil (A : Option Addr) (c : Nat) (w : World) : Calls Try.prog 31 #[.slice A 0 c] w (Ans w (.tuple #[.int .i64 0, .int .i64 0, .int .i64 3])) := by
  go_enter Try.func31, Try.ntmps31
  go_wp2
  go_ret3
  exact ⟨rfl, Below.refl _ _⟩

set_option maxRecDepth 100000 in
set_option maxHeartbeats 400000 in
theorem refGetInt_head (b off n c h : Nat) (hpos : 0 < n) (hm : n ≤ 9223372036854775807) (w : World) (h0 : w.cell? ⟨b, off, none⟩ = some (.int .u8 (h : Int))) (h256 : h < 256) (hh : h < 119 ∨ 136 < h) :
    Calls Try.prog 31 #[.slice (some ⟨b, off, none⟩) n c] w (Ans w (.tuple #[.int .i64 0, .int .i64 0, .int .i64 2])) := by
  rcases hh with hh | hh
  all_goals
    go_enter Try.func31, Try.ntmps31
    go_wp2
    go_ret3
    exact ⟨rfl, Below.refl _ _⟩

set_option maxRecDepth 100000 in
set_option maxHeartbeats 400000 in
theorem refGetInt_short_neg (b off n c h k : Nat) (hpos : 0 < n) (hm : n ≤ 9223372036854775807) (w : World) (h0 : w.cell? ⟨b, off, none⟩ = some (.int .u8 (h : Int))) (h1 : 119 ≤ h) (h2 : h < 128) (hk : h + k = 127) (hkn : n < k + 1) :
    Calls Try.prog 31 #[.slice (some ⟨b, off, none⟩) n c] w (Ans w (.tuple #[.int .i64 0, .int .i64 0, .int .i64 3])) := by
  have hk' : (127 : Int) - (h : Int) = (k : Int) := by omega
  go_enter Try.func31, Try.ntmps31
  go_wp2
  go_ret3
  exact ⟨rfl, Below.refl _ _⟩

set_option maxRecDepth 100000 in
set_option maxHeartbeats 400000 in
theorem refGetInt_short_pos (b off n c h k : Nat) (hpos : 0 < n) (hm : n ≤ 9223372036854775807) (w : World) (h0 : w.cell? ⟨b, off, none⟩ = some (.int .u8 (h : Int))) (h1 : h ≤ 136) (h2 : 128 ≤ h) (hk : h = 128 + k) (hkn : n < k + 1) :
    Calls Try.prog 31 #[.slice (some ⟨b, off, none⟩) n c] w (Ans w (.tuple #[.int .i64 0, .int .i64 0, .int .i64 3])) := by
  have hk' : (h : Int) - (128 : Int) = (k : Int) := by omega
  clear hk
  go_enter Try.func31, Try.ntmps31
  go_wp2
  go_ret3
  exact ⟨rfl, Below.refl _ _⟩

set_option maxRecDepth 100000 in
set_option maxHeartbeats 1000000 in
theorem refGetInt_full_neg (b off n c h k : Nat) (g y V : Nat → Nat) (l : List UInt8) (r : Except Nat (Int × Nat)) (hnl : Hid (n = l.length)) (hnc : n ≤ c) (hm : n ≤ 9223372036854775807) (w : World) (h0 : w.cell? ⟨b, off, none⟩ = some (.int .u8 (h : Int))) (h1 : 119 ≤ h) (h2 : h < 128) (hk : h + k = 127) (hkn : k < n) (hk8 : k ≤ 8)
    (hR : Hid (Rd w (some ⟨b, off, none⟩) (bv l))) (hc : Hid (∀ j, j < k → w.cell? ⟨b, off + (j + 1), none⟩ = some (.int .u8 (g j : Int)))) (hg : Hid (∀ j, g j < 256)) (hy256 : Hid (∀ j, y j < 256))
    (hy : Hid (∀ j, j < k → (255 : Int) - (g j : Int) = (y j : Int))) (hV0 : V 0 = 0) (hV : Hid (∀ j, j < k → 256 * V j + y j = V (j + 1)))
    (hVk : Hid ((∀ j, j < k → V j ≤ 36028797018963967) → V k ≤ 9223372036854775807)) (hbig : Hid (∀ j, j < k → 36028797018963967 < V j → r = .error 2)) (hr : Hid ((∀ j, j < k → V j ≤ 36028797018963967) → r = if encInt (-1 - (V k : Int)) = l.take (k + 1) then .ok (-1 - (V k : Int), k + 1) else .error 2)) :
    Calls Try.prog 31 #[.slice (some ⟨b, off, none⟩) n c] w (Ans w (resI r)) := by
  have hk' : (127 : Int) - (h : Int) = (k : Int) := by omega
  have hcut := run_cut_to Try.underlying28 cel5 ino5 (some ⟨b, off, none⟩) n c ((k : Int) + 1) (by omega) (by omega)
  rw [cutAt_zero, show ((k : Int) + 1).toNat = k + 1 from by omega] at hcut
  clear hk
  go_enter Try.func31, Try.ntmps31
  go_wp2
  go_loop [7, 8] (fun m q => ∃ j : Nat, j ≤ k ∧ Hid (∀ i, i < j → V i ≤ 36028797018963967) ∧ m = .int .i64 (V j : Int) ∧ q = .int .i64 ((j : Int) + 1)) (fun _ q => 9 - (intOf q).toNat)
  case atStart => exact ⟨0, Nat.zero_le _, (fun i hi => absurd hi (Nat.not_lt_zero _)), by rw [hV0]; rfl, rfl⟩
  case round =>
    obtain ⟨j, hj, hsm, rfl, rfl⟩ := hrel
    by_cases hjk : j < k
    · have c1 := hc.out j hjk
      have c2 := hy.out j hjk
      have c3 := hg.out j
      have c5 := hy256.out j
      have c4 := hide (hV.out j hjk)
      have hB := hide (hbig.out j hjk)
      have hs2 := hide (show V j ≤ 36028797018963967 → ∀ i, i < j + 1 → V i ≤ 36028797018963967 from fun h i hi => by
        rcases Nat.lt_or_ge i j with h' | h'
        · exact hsm.out i h'
        · obtain rfl : i = j := by omega
          exact h)
      generalize g j = G at *
      generalize y j = Y at *
      generalize V j = Vj at *
      by_cases hb : 36028797018963967 < Vj
      · go_wp2
        go_ret3
        exact ⟨by rw [hB.out hb]; rfl, Below.refl _ _⟩
      · go_wp2
        go_round
        case rel => exact ⟨j + 1, by omega, hs2.out (by omega), by rw [← c4.out]; go_num, by go_num⟩
        case measure => simp [intOf]; omega
    · obtain rfl : j = k := by omega
      have hvk := hVk.out hsm.out
      have HR := hide (hr.out hsm.out)
      have hI : I64 (-1 - (V j : Int)) := ⟨by omega, by omega⟩
      have h9 := encInt_le9 (-1 - (V j : Int))
      by_cases he : encInt (-1 - (V j : Int)) = l.take (j + 1)
      · have HE := hide he
        rw [if_pos he] at HR
        clear he
        generalize V j = M at *
        have hwr : IntKind.i64.wrap ((j : Int) + 1) = (j : Int) + 1 := IntWalk.i64_in _ (by omega)
        go_wp2
        go_region_with (first | (go_at_call 21; go_loud (refine (refInt_any _ hI _).mono ?_); rintro e w1 ⟨v, rfl, ho, hB1⟩; obtain ⟨A1, c1, rfl, hR1, hc1⟩ := own_open ho (by rw [bv_length]; omega)) | (go_at_call 19; go_loud (refine (yes (same_any A1 _ (encInt (-1 - (M : Int))) (l.take (j + 1)) _ (j + 1) c1 c _ rfl (by rw [List.length_take, ← hnl.out]; omega) hR1 (rd_take (hR.out.drew.below hB1) (j + 1))) (decide_eq_true HE.out)).mono ?_); rintro e w2 ⟨rfl, hB2⟩))
        go_wp2
        go_ret3
        exact ⟨by rw [HR.out]; rfl, below_of_drew (below_trans hB1 hB2 hB1.size)⟩
      · have HE := hide he
        rw [if_neg he] at HR
        clear he
        generalize V j = M at *
        have hwr : IntKind.i64.wrap ((j : Int) + 1) = (j : Int) + 1 := IntWalk.i64_in _ (by omega)
        go_wp2
        go_region_with (first | (go_at_call 21; go_loud (refine (refInt_any _ hI _).mono ?_); rintro e w1 ⟨v, rfl, ho, hB1⟩; obtain ⟨A1, c1, rfl, hR1, hc1⟩ := own_open ho (by rw [bv_length]; omega)) | (go_at_call 19; go_loud (refine (noo (same_any A1 _ (encInt (-1 - (M : Int))) (l.take (j + 1)) _ (j + 1) c1 c _ rfl (by rw [List.length_take, ← hnl.out]; omega) hR1 (rd_take (hR.out.drew.below hB1) (j + 1))) (decide_eq_false HE.out)).mono ?_); rintro e w2 ⟨rfl, hB2⟩))
        go_wp2
        go_ret3
        exact ⟨by rw [HR.out]; rfl, below_of_drew (below_trans hB1 hB2 hB1.size)⟩
set_option maxRecDepth 100000 in
set_option maxHeartbeats 1000000 in
theorem refGetInt_full_pos (b off n c h k : Nat) (g V : Nat → Nat) (l : List UInt8) (r : Except Nat (Int × Nat)) (hnl : Hid (n = l.length)) (hnc : n ≤ c) (hm : n ≤ 9223372036854775807) (w : World) (h0 : w.cell? ⟨b, off, none⟩ = some (.int .u8 (h : Int))) (h1 : h ≤ 136) (h2 : 128 ≤ h) (hk : h = 128 + k) (hkn : k < n) (hk8 : k ≤ 8)
    (hR : Hid (Rd w (some ⟨b, off, none⟩) (bv l))) (hc : Hid (∀ j, j < k → w.cell? ⟨b, off + (j + 1), none⟩ = some (.int .u8 (g j : Int)))) (hg : Hid (∀ j, g j < 256))
    (hV0 : V 0 = 0) (hV : Hid (∀ j, j < k → 256 * V j + g j = V (j + 1)))
    (hVk : Hid ((∀ j, j < k → V j ≤ 36028797018963967) → V k ≤ 9223372036854775807)) (hbig : Hid (∀ j, j < k → 36028797018963967 < V j → r = .error 2)) (hr : Hid ((∀ j, j < k → V j ≤ 36028797018963967) → r = if encInt ((V k : Int)) = l.take (k + 1) then .ok ((V k : Int), k + 1) else .error 2)) :
    Calls Try.prog 31 #[.slice (some ⟨b, off, none⟩) n c] w (Ans w (resI r)) := by
  have hk' : (h : Int) - (128 : Int) = (k : Int) := by omega
  have hcut := run_cut_to Try.underlying28 cel5 ino5 (some ⟨b, off, none⟩) n c ((k : Int) + 1) (by omega) (by omega)
  rw [cutAt_zero, show ((k : Int) + 1).toNat = k + 1 from by omega] at hcut
  clear hk
  go_enter Try.func31, Try.ntmps31
  go_wp2
  go_loop [7, 8] (fun m q => ∃ j : Nat, j ≤ k ∧ Hid (∀ i, i < j → V i ≤ 36028797018963967) ∧ m = .int .i64 (V j : Int) ∧ q = .int .i64 ((j : Int) + 1)) (fun _ q => 9 - (intOf q).toNat)
  case atStart => exact ⟨0, Nat.zero_le _, (fun i hi => absurd hi (Nat.not_lt_zero _)), by rw [hV0]; rfl, rfl⟩
  case round =>
    obtain ⟨j, hj, hsm, rfl, rfl⟩ := hrel
    by_cases hjk : j < k
    · have c1 := hc.out j hjk
      have c3 := hg.out j
      have c4 := hide (hV.out j hjk)
      have hB := hide (hbig.out j hjk)
      have hs2 := hide (show V j ≤ 36028797018963967 → ∀ i, i < j + 1 → V i ≤ 36028797018963967 from fun h i hi => by
        rcases Nat.lt_or_ge i j with h' | h'
        · exact hsm.out i h'
        · obtain rfl : i = j := by omega
          exact h)
      generalize g j = G at *
      generalize V j = Vj at *
      by_cases hb : 36028797018963967 < Vj
      · go_wp2
        go_ret3
        exact ⟨by rw [hB.out hb]; rfl, Below.refl _ _⟩
      · go_wp2
        go_round
        case rel => exact ⟨j + 1, by omega, hs2.out (by omega), by rw [← c4.out]; go_num, by go_num⟩
        case measure => simp [intOf]; omega
    · obtain rfl : j = k := by omega
      have hvk := hVk.out hsm.out
      have HR := hide (hr.out hsm.out)
      have hI : I64 ((V j : Int)) := ⟨by omega, by omega⟩
      have h9 := encInt_le9 ((V j : Int))
      by_cases he : encInt ((V j : Int)) = l.take (j + 1)
      · have HE := hide he
        rw [if_pos he] at HR
        clear he
        generalize V j = M at *
        have hwr : IntKind.i64.wrap ((j : Int) + 1) = (j : Int) + 1 := IntWalk.i64_in _ (by omega)
        go_wp2
        go_region_with (first | (go_at_call 21; go_loud (refine (refInt_any _ hI _).mono ?_); rintro e w1 ⟨v, rfl, ho, hB1⟩; obtain ⟨A1, c1, rfl, hR1, hc1⟩ := own_open ho (by rw [bv_length]; omega)) | (go_at_call 19; go_loud (refine (yes (same_any A1 _ (encInt ((M : Int))) (l.take (j + 1)) _ (j + 1) c1 c _ rfl (by rw [List.length_take, ← hnl.out]; omega) hR1 (rd_take (hR.out.drew.below hB1) (j + 1))) (decide_eq_true HE.out)).mono ?_); rintro e w2 ⟨rfl, hB2⟩))
        go_wp2
        go_ret3
        exact ⟨by rw [HR.out]; rfl, below_of_drew (below_trans hB1 hB2 hB1.size)⟩
      · have HE := hide he
        rw [if_neg he] at HR
        clear he
        generalize V j = M at *
        have hwr : IntKind.i64.wrap ((j : Int) + 1) = (j : Int) + 1 := IntWalk.i64_in _ (by omega)
        go_wp2
        go_region_with (first | (go_at_call 21; go_loud (refine (refInt_any _ hI _).mono ?_); rintro e w1 ⟨v, rfl, ho, hB1⟩; obtain ⟨A1, c1, rfl, hR1, hc1⟩ := own_open ho (by rw [bv_length]; omega)) | (go_at_call 19; go_loud (refine (noo (same_any A1 _ (encInt ((M : Int))) (l.take (j + 1)) _ (j + 1) c1 c _ rfl (by rw [List.length_take, ← hnl.out]; omega) hR1 (rd_take (hR.out.drew.below hB1) (j + 1))) (decide_eq_false HE.out)).mono ?_); rintro e w2 ⟨rfl, hB2⟩))
        go_wp2
        go_ret3
        exact ⟨by rw [HR.out]; rfl, below_of_drew (below_trans hB1 hB2 hB1.size)⟩

/-- How many bytes follow an integer's head. -/
def tl (h : UInt8) : Nat := (fl (decide (h < 128)) h).toNat - 128
/-- The number that the first bytes after the head spell. -/
def vs (h : UInt8) (t : List UInt8) (j : Nat) : Nat := val ((t.take j).map (fl (decide (h < 128))))
def ys (h : UInt8) (t : List UInt8) (j : Nat) : Nat := (fl (decide (h < 128)) (t.getD j 0)).toNat
def nv (h : UInt8) (t : List UInt8) (k : Nat) : Int := if h < 128 then -1 - (vs h t k : Int) else (vs h t k : Int)
theorem vs_step (h : UInt8) (t : List UInt8) (j : Nat) (hj : j < t.length) : 256 * vs h t j + ys h t j = vs h t (j + 1) := by
  unfold vs ys
  rw [take_succ_getD t j hj, List.map_append, List.map_cons, List.map_nil, val_snoc]
  omega
theorem vs_mono (h : UInt8) (t : List UInt8) (j m : Nat) (hj : j + m ≤ t.length) : vs h t j ≤ vs h t (j + m) := by
  induction m with
  | zero => exact Nat.le_refl _
  | succ m ih =>
    have h1 := ih (by omega)
    have h2 := vs_step h t (j + m) (by omega)
    rw [show j + (m + 1) = j + m + 1 from rfl]
    omega
theorem vs_small (h : UInt8) (t : List UInt8) (k : Nat) (hk : k ≤ t.length) (hs : ∀ j, j < k → vs h t j ≤ 36028797018963967) : vs h t k ≤ 9223372036854775807 := by
  cases k with
  | zero => simp [vs, val_nil]
  | succ k =>
    have h1 := hs k (by omega)
    have h2 := vs_step h t k (by omega)
    have h3 : ys h t k < 256 := u8_lt _
    omega
theorem dec_either (h : UInt8) (t : List UInt8) (k : Nat) (hk : tl h = k) (h8 : k ≤ 8) (hl : k ≤ t.length) : decInt (h :: t) = .error 2 ∨ (vs h t k < 9223372036854775808 ∧ decInt (h :: t) = .ok (nv h t k, k + 1)) := by
  unfold tl at hk
  unfold vs nv vs
  rw [decInt, hk, if_neg (by omega), if_neg (by omega)]
  split
  · exact .inl rfl
  split
  · exact .inl rfl
  · exact .inr ⟨by omega, rfl⟩
theorem dec_large (h : UInt8) (t : List UInt8) (k : Nat) (hk : tl h = k) (h8 : k ≤ 8) (hl : k ≤ t.length) (j : Nat) (hj : j < k) (hb : 36028797018963967 < vs h t j) : decInt (h :: t) = .error 2 := by
  rcases dec_either h t k hk h8 hl with h' | ⟨h', _⟩
  · exact h'
  have h2 := vs_step h t j (by omega)
  have h3 := vs_mono h t (j + 1) (k - (j + 1)) (by omega)
  rw [show j + 1 + (k - (j + 1)) = k from by omega] at h3
  omega
theorem dec_iff (h : UInt8) (t : List UInt8) (k : Nat) (hk : tl h = k) (h8 : k ≤ 8) (hl : k ≤ t.length) (hs : ∀ j, j < k → vs h t j ≤ 36028797018963967) : decInt (h :: t) = if encInt (nv h t k) = (h :: t).take (k + 1) then .ok (nv h t k, k + 1) else .error 2 := by
  have hv := vs_small h t k hl hs
  by_cases he : encInt (nv h t k) = (h :: t).take (k + 1)
  · rw [if_pos he]
    have hI : I64 (nv h t k) := by unfold nv I64; split <;> omega
    have hd := dec_enc _ hI ((h :: t).drop (k + 1))
    rw [he, List.take_append_drop] at hd
    rw [hd, List.length_take, List.length_cons, Nat.min_eq_left (by omega)]
  · rw [if_neg he]
    rcases dec_either h t k hk h8 hl with h' | ⟨_, h'⟩
    · exact h'
    · exact absurd (enc_dec h') he
/-- The reference decodes an integer as the wire does. -/
theorem refGetInt_any (A : Option Addr) (l : List UInt8) (n c : Nat) (w : World) (hn : n = l.length) (hnc : n ≤ c) (hR : Rd w A (bv l)) :
    Calls Try.prog 31 #[.slice A n c] w (Ans w (resI (decInt l))) := by
  cases l with
  | nil => subst hn; exact refGetInt_nil A c w
  | cons h t =>
    have hm := hR.len
    rw [bv_length, ← hn] at hm
    have hHR := hide hR
    obtain ⟨b, off, rfl, hc⟩ := hR.2 (by simp [bv])
    have h0 : w.cell? ⟨b, off, none⟩ = some (.int .u8 (h.toNat : Int)) := hc 0 _ rfl
    have hcell : ∀ j, j < t.length → w.cell? ⟨b, off + (j + 1), none⟩ = some (.int .u8 ((t.getD j 0).toNat : Int)) := fun j hj => 
      hc (j + 1) _ (by show (bv t)[j]? = _; exact bv_getElem? t j hj)
    have hl : n = t.length + 1 := hn
    have h128 : (128 : UInt8).toNat = 128 := rfl
    have hh := u8_lt h
    have hfl := fl_toNat (decide (h < 128)) h
    have htl : tl h = if h.toNat < 128 then 127 - h.toNat else h.toNat - 128 := by
      unfold tl
      rw [hfl]
      by_cases hs : h < 128
      · have hs' := hs
        rw [UInt8.lt_iff_toNat_lt, h128] at hs'
        simp [hs, hs']; omega
      · have hs' := hs
        rw [UInt8.lt_iff_toNat_lt, h128] at hs'
        simp [hs, hs']
    obtain ⟨k, hk⟩ : ∃ k, tl h = k := ⟨_, rfl⟩
    rw [hk] at htl
    by_cases hk8 : 8 < k
    · have hd : decInt (h :: t) = .error 2 := by
        unfold tl at hk
        rw [decInt, hk, if_pos hk8]
      rw [hd]
      exact refGetInt_head b off n c h.toNat (by omega) (by omega) w h0 hh (by split at htl <;> omega)
    by_cases hkn : t.length < k
    · have hd : decInt (h :: t) = .error 3 := by
        unfold tl at hk
        rw [decInt, hk, if_neg hk8, if_pos hkn]
      rw [hd]
      by_cases hs : h.toNat < 128
      · rw [if_pos hs] at htl
        exact refGetInt_short_neg b off n c h.toNat k (by omega) (by omega) w h0 (by omega) hs (by omega) (by omega)
      · rw [if_neg hs] at htl
        exact refGetInt_short_pos b off n c h.toNat k (by omega) (by omega) w h0 (by omega) (by omega) (by omega) (by omega)
    by_cases hs : h.toNat < 128
    · rw [if_pos hs] at htl
      have hs' : h < 128 := by rw [UInt8.lt_iff_toNat_lt, h128]; exact hs
      have hnv : nv h t k = -1 - (vs h t k : Int) := by unfold nv; rw [if_pos hs']
      refine refGetInt_full_neg b off n c h.toNat k (fun j => (t.getD j 0).toNat) (ys h t) (vs h t) (h :: t) (decInt (h :: t)) (hide hn) hnc (by omega) w h0 (by omega) hs (by omega) (by omega) (by omega) hHR
        (hide fun j hj => hcell j (by omega)) (hide fun j => u8_lt _) (hide fun j => u8_lt _) (hide fun j hj => ?_) (by simp [vs, val_nil]) (hide fun j hj => vs_step h t j (by omega)) (hide fun hs => vs_small h t k (by omega) hs)
        (hide fun j hj hb => dec_large h t k hk (by omega) (by omega) j hj hb) (hide fun hs => ?_)
      · have := fl_toNat true (t.getD j 0)
        have := u8_lt (t.getD j 0)
        unfold ys
        rw [decide_eq_true hs']
        simp at *
        omega
      · rw [dec_iff h t k hk (by omega) (by omega) hs, hnv]
    · rw [if_neg hs] at htl
      have hs' : ¬ h < 128 := by rw [UInt8.lt_iff_toNat_lt, h128]; exact hs
      have hnv : nv h t k = (vs h t k : Int) := by unfold nv; rw [if_neg hs']
      refine refGetInt_full_pos b off n c h.toNat k (ys h t) (vs h t) (h :: t) (decInt (h :: t)) (hide hn) hnc (by omega) w h0 (by omega) (by omega) (by omega) (by omega) (by omega) hHR
        (hide fun j hj => ?_) (hide fun j => u8_lt _) (by simp [vs, val_nil]) (hide fun j hj => vs_step h t j (by omega)) (hide fun hs => vs_small h t k (by omega) hs)
        (hide fun j hj hb => dec_large h t k hk (by omega) (by omega) j hj hb) (hide fun hs => ?_)
      · rw [hcell j (by omega)]
        unfold ys
        rw [decide_eq_false hs']
        rfl
      · rw [dec_iff h t k hk (by omega) (by omega) hs, hnv]
end Go.Proofs.Ytopppkafbbfobaa.W
