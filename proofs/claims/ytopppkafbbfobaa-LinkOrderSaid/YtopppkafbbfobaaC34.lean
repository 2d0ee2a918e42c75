/- wire.GetInts: a closure decodes one integer after the other. -/
import Derived.Test.YtopppkafbbfobaaC24
import Derived.Deep.QuietTactic
import Derived.BigQuiet
import Derived.Deep.RegionHeld
namespace Go.Proofs.Ytopppkafbbfobaa.W
open Go.RowKit

/-- What the closure leaves behind a value. -/
def NextPost (w : World) (p : Addr) (x : Int) (at' : Nat) (k : Nat) (e : Ending) (w' : World) : Prop :=
  e = .returned (.tuple #[.int .i64 x, .int .i64 (at' : Int), .int .i64 (k : Int)]) ∧ ∃ m, w' = (w.setCell p (.int .i64 (at' : Int))).drewN m

set_option maxRecDepth 100000 in
set_option maxHeartbeats 400000 in
theorem next_any (g0 g1 at_ : Nat) (A : Option Addr) (l : List UInt8) (n c : Nat) (w : World) (hn : n = l.length) (hnc : n ≤ c) (hR : Rd w A (bv l)) (h0 : w.cell? ⟨g0, 0, none⟩ = some (.slice A n c)) (h1 : w.cell? ⟨g1, 0, none⟩ = some (.int .i64 (at_ : Int)))
    (hf : w.frozen? ⟨g1, 0, none⟩ = false) (hat : at_ ≤ n) (x : Int) (u k : Nat) (hd : Hid (resI (decInt (l.drop at_)) = .tuple #[.int .i64 x, .int .i64 (u : Int), .int .i64 (k : Int)])) (hu : at_ + u ≤ n) :
    Calls Try.prog 77 #[.pointer (some ⟨g0, 0, none⟩), .pointer (some ⟨g1, 0, none⟩)] w (NextPost w ⟨g1, 0, none⟩ x (at_ + u) k) := by
  have hm : n ≤ 9223372036854775807 := by have := hR.len; rw [bv_length] at this; omega
  have hcut := run_cut_from Try.underlying28 cel5 ino5 A n c (at_ : Int) (by omega) (by omega)
  rw [Int.toNat_natCast] at hcut
  have hR' := hR.cut (sz := 1) (n := n) (by rw [bv_length]; omega) hnc at_ n (Nat.le_refl _)
  have e1 : (List.drop (at_ * 1) (bv l)).take ((n - at_) * 1) = bv (l.drop at_) := by
    rw [Nat.mul_one, Nat.mul_one, List.take_of_length_le (by rw [List.length_drop, bv_length]; omega)]
    simp [bv]
  rw [e1] at hR'
  clear e1
  have hl : n - at_ = (l.drop at_).length := by rw [List.length_drop]; omega
  have HN := hide hl
  clear hl hn
  generalize cutAt A c at_ 1 = A' at *
  go_enter Try.func77, Try.ntmps77
  go_wp2_with fail
  refine (getInt_any A' (l.drop at_) (n - at_) (c - at_) _ HN.out (by omega) hR').mono ?_
  rw [hd.out]
  rintro e w' ⟨rfl, rfl⟩
  go_wp2_with fail
  go_quiet (fail)
  go_wp2
  go_ret3
  exact ⟨by simp, _, by rw [Int.natCast_add]⟩

/-- One element after the other. -/
def decN {α : Type} (d : List UInt8 → Except Nat (α × Nat)) : Nat → List UInt8 → Except Nat (List α × Nat)
  | 0, _ => .ok ([], 0)
  | k + 1, b => match d b with
    | .error e => .error e
    | .ok (x, u) => match decN d k (b.drop u) with
      | .error e => .error e
      | .ok (l, v) => .ok (x :: l, u + v)
def decList {α : Type} (d : List UInt8 → Except Nat (α × Nat)) (size : Nat) (b : List UInt8) : Except Nat (List α × Nat) :=
  match cnt b size with
  | .error e => .error e
  | .ok (n, u) => match decN d n (b.drop u) with
    | .error e => .error e
    | .ok (l, v) => .ok (l, u + v)
/-- What is still to come, behind what has been read. -/
def more {α : Type} (acc : List α) (at_ : Nat) : Except Nat (List α × Nat) → Except Nat (List α × Nat)
  | .error e => .error e
  | .ok (l, v) => .ok (acc ++ l, at_ + v)
/-- What a function leaves that decodes a list. -/
def GetPost (w : World) (r : Except Nat (List Value × Nat)) (ty : TypeId) (sz : Nat) (e : Ending) (w' : World) : Prop :=
  Below w.heap.size w w' ∧ match r with
    | .error k => e = .returned (.tuple #[.slice none 0 0, .int .i64 0, .int .i64 (k : Int)])
    | .ok (xs, u) => ∃ v n, e = .returned (.tuple #[v, .int .i64 (u : Int), .int .i64 0]) ∧ w'.ownsRow w.heap.size ty sz v n xs

def mapOk {α β : Type} (f : List α → List β) : Except Nat (List α × Nat) → Except Nat (List β × Nat)
  | .error e => .error e
  | .ok (l, v) => .ok (f l, v)

set_option maxRecDepth 100000 in
set_option maxHeartbeats 400000 in
theorem getInts_err (A : Option Addr) (l : List UInt8) (n c k : Nat) (w : World) (hn : n = l.length) (hnc : n ≤ c) (hR : Rd w A (bv l)) (hd : Hid (cnt l 1 = .error k)) (hk : ((k : Int) != 0) = true) :
    Calls Try.prog 34 #[.slice A n c] w (GetPost w (.error k) 3 1) := by
  have HN := hide hn
  clear hn
  go_enter Try.func34, Try.ntmps34
  go_wp2_with fail
  refine (count_any A l n c 1 _ HN.out hnc hR (by omega) (by omega)).mono ?_
  rw [hd.out]
  rintro e w' ⟨rfl, a, b, rfl⟩
  go_wp2
  go_ret3
  exact ⟨Below.refl _ _, rfl⟩

set_option maxRecDepth 100000 in
set_option maxHeartbeats 400000 in
theorem reader_any (A : Option Addr) (n c at_ : Nat) (w : World) :
    Calls Try.prog 66 #[.slice A n c, .int .i64 (at_ : Int)] w fun e w' => e = .returned (.func (.func 77) #[] #[.pointer (some ⟨w.heap.size, 0, none⟩), .pointer (some ⟨w.heap.size + 1, 0, none⟩)]) ∧ (w.alloc (.cells #[.slice A n c] 28)).alloc (.cells #[.int .i64 (at_ : Int)] 3) = w' := by
  go_enter Try.func66, Try.ntmps66
  go_wp2
  go_ret
  exact ⟨rfl, rfl⟩

theorem more_err {α : Type} {d : List UInt8 → Except Nat (α × Nat)} {acc : List α} {at_ j e : Nat} {b : List UInt8} (h : d b = .error e) : more acc at_ (decN d (j + 1) b) = .error e := by
  rw [decN, h]; rfl
theorem more_ok {α : Type} {d : List UInt8 → Except Nat (α × Nat)} {acc : List α} {at_ j u : Nat} {x : α} {l : List UInt8} (h : d (l.drop at_) = .ok (x, u)) :
    more acc at_ (decN d (j + 1) (l.drop at_)) = more (acc ++ [x]) (at_ + u) (decN d j (l.drop (at_ + u))) := by
  rw [decN, h]
  simp only []
  rw [List.drop_drop]
  cases decN d j (l.drop (at_ + u)) with
  | error e => rfl
  | ok r =>
    obtain ⟨t, v⟩ := r
    simp [more, Nat.add_assoc]
theorem more_done {α : Type} {d : List UInt8 → Except Nat (α × Nat)} {acc : List α} {at_ : Nat} {b : List UInt8} : more acc at_ (decN d 0 b) = .ok (acc, at_) := by
  simp [decN, more]
theorem below_drewN {B : Nat} {a w : World} (h : Below B a w) (n : Nat) : Below B a (w.drewN n) := ⟨h.os, h.tape, h.output, h.size, h.block⟩
theorem own_drewN {w : World} {base : Nat} {e : TypeId} {size n : Nat} {v : Value} {xs : List Value} (h : w.ownsRow base e size v n xs) (k : Nat) : (w.drewN k).ownsRow base e size v n xs := h

set_option maxRecDepth 100000 in
set_option maxHeartbeats 400000 in
theorem getInts_ok (A : Option Addr) (l : List UInt8) (n c m u : Nat) (w : World) (hn : n = l.length) (hnc : n ≤ c) (hR : Rd w A (bv l)) (hd : Hid (cnt l 1 = .ok (m, u))) (hum : u + m ≤ n) (hm : n ≤ 17592186044416)
    (r : Except Nat (List Int × Nat)) (hr : Hid (r = more [] u (decN decInt m (l.drop u)))) :
    Calls Try.prog 34 #[.slice A n c] w (GetPost w (mapOk iv r) 3 1) := by
  have HN := hide hn
  clear hn
  go_enter Try.func34, Try.ntmps34
  go_wp2_with fail
  refine (count_any A l n c 1 _ HN.out hnc hR (by omega) (by omega)).mono ?_
  rw [hd.out]
  rintro e w' ⟨rfl, rfl⟩
  go_wp2_with fail
  refine (reader_any A n c u _).mono ?_
  rintro e w' ⟨rfl, rfl⟩
  go_wp2_with fail
  have hRB : ∀ W, Below w.heap.size w W → Rd W A (bv l) := fun W h => hR.below h
  have HRB := hide hRB
  clear hRB hR
  go_loopw [6, 9, 26] (fun a v i wr => ∃ (k at_ : Nat) (acc : List Int), k ≤ m ∧ i = .int .i64 (k : Int) ∧ a = .int .i64 (at_ : Int) ∧ at_ ≤ n ∧ acc.length = k ∧ wr.ownsRow (w.heap.size + 2) 3 1 v acc.length (iv acc) ∧
      wr.cell? ⟨w.heap.size, 0, none⟩ = some (.slice A n c) ∧ wr.cell? ⟨w.heap.size + 1, 0, none⟩ = some (.int .i64 (at_ : Int)) ∧ wr.frozen? ⟨w.heap.size + 1, 0, none⟩ = false ∧ Below w.heap.size w wr ∧
      Hid (r = more acc at_ (decN decInt (m - k) (l.drop at_))))
    (fun _ _ i _ => m - (intOf i).toNat)
  case atStart =>
    refine ⟨0, u, [], Nat.zero_le _, rfl, rfl, by omega, rfl, World.ownsRow_nil _ _ _ _, by simp, by simp, by simp, ((Below.refl _ _).alloc (Nat.le_refl _) _).alloc (by simp) _, hr⟩
  case round =>
    obtain ⟨k, at_, acc, hk, rfl, rfl, hat, hacc, hown, h0, h1, hf, hB, hrr⟩ := hrel
    have HA := hide hacc
    clear hacc
    have hb1 := World.block_lt_of_cell? _ _ h1
    simp only at hb1
    by_cases hkm : k < m
    · cases hd2 : decInt (l.drop at_) with
      | error e =>
        have hE := dec_err hd2
        have hne : ((e : Int) != 0) = true := by rw [bne_iff_ne]; omega
        have HD := hide (show resI (decInt (l.drop at_)) = .tuple #[.int .i64 0, .int .i64 ((0 : Nat) : Int), .int .i64 (e : Int)] from by rw [hd2]; rfl)
        have HR2 := hide (more_err (acc := acc) (at_ := at_) (j := m - k - 1) hd2)
        rw [show m - k - 1 + 1 = m - k from by omega] at HR2
        clear hd2 hE
        go_wp2_with fail
        refine (next_any w.heap.size (w.heap.size + 1) at_ A l n c wr HN.out hnc (HRB.out _ hB) h0 h1 hf hat 0 0 e HD hat).mono ?_
        rintro e' w2 ⟨rfl, q, rfl⟩
        go_wp2
        go_ret3
        refine ⟨below_drewN (hB.setCell (Nat.le_succ _) _) q, ?_⟩
        rw [hrr.out, HR2.out]
        rfl
      | ok res =>
        obtain ⟨x, v2⟩ := res
        obtain ⟨hxI, _, _, hv2⟩ := dec_bounds hd2
        rw [List.length_drop, ← HN.out] at hv2
        have HD := hide (show resI (decInt (l.drop at_)) = .tuple #[.int .i64 x, .int .i64 (v2 : Int), .int .i64 ((0 : Nat) : Int)] from by rw [hd2]; rfl)
        have HR2 := hide (more_ok (acc := acc) (j := m - k - 1) hd2)
        rw [show m - k - 1 + 1 = m - k from by omega, show m - k - 1 = m - (k + 1) from by omega] at HR2
        clear hd2
        go_wp2_with fail
        refine (next_any w.heap.size (w.heap.size + 1) at_ A l n c wr HN.out hnc (HRB.out _ hB) h0 h1 hf hat x v2 0 HD (by omega)).mono ?_
        rintro e' w2 ⟨rfl, q, hw2⟩
        have hown2 : w2.ownsRow (w.heap.size + 2) 3 1 u9 acc.length (iv acc) := by rw [hw2]; exact own_drewN (ownsRow_setCell_below hown (a := ⟨w.heap.size + 1, 0, none⟩) (by simp) (.int .i64 ((at_ + v2 : Nat) : Int))) q
        have hB2 : Below w.heap.size w w2 := by rw [hw2]; exact below_drewN (hB.setCell (p := ⟨w.heap.size + 1, 0, none⟩) (Nat.le_succ _) (.int .i64 ((at_ + v2 : Nat) : Int))) q
        have h02 : w2.cell? ⟨w.heap.size, 0, none⟩ = some (.slice A n c) := by rw [hw2, World.cell?_drewN]; exact (World.cell?_setCell_far _ _ _ _ (by simp)).trans h0
        have h12 : w2.cell? ⟨w.heap.size + 1, 0, none⟩ = some (.int .i64 ((at_ + v2 : Nat) : Int)) := by rw [hw2, World.cell?_drewN]; exact World.cell?_setCell_same _ _ _ h1
        have hf2 : w2.frozen? ⟨w.heap.size + 1, 0, none⟩ = false := by rw [hw2]; simp [hf]
        have hs2 : w.heap.size + 2 ≤ w2.heap.size := by rw [hw2]; simp; omega
        clear hw2 hown h0 h1 hf hB hb1
        go_wp2_with (at_builtin; refine wp_app1 (w0 := w2) rfl (.tmp 37) (.tmp 39) 22 rfl (w.heap.size + 2) (.int .i64 0) 8 Try.underlying22 inf3 rfl _ acc.length (iv acc) rfl hown2 rfl rfl (by have := HA.out; omega) (by have := HA.out; omega) hs2 (Below.refl _ _) ?_; intro v' w3 ho3 hB3 _ _)
        have hB23 : Below w.heap.size w w3 := hB2.trans (hB3.mono (by omega))
        go_roundw
        case rel =>
          refine ⟨k + 1, at_ + v2, acc ++ [x], by omega, by go_num, by go_num, by omega, by rw [List.length_append, HA.out]; rfl, by rw [iv_append, List.length_append]; exact ho3, ?_, ?_, ?_, hB23, HR2.out ▸ hrr⟩
          · exact (hB3.cell (by simp)).trans h02
          · exact (hB3.cell (by simp)).trans h12
          · exact (hB3.frozen (by simp)).trans hf2
        case measure => simp [intOf]; omega
    · obtain rfl : k = m := by omega
      go_wp2
      go_ret3
      rw [Nat.sub_self, more_done] at hrr
      refine ⟨hB, ?_⟩
      rw [hrr.out]
      exact ⟨_, _, rfl, own_rebase hown (by omega)⟩

theorem more_nil {α : Type} (u : Nat) (r : Except Nat (List α × Nat)) : more [] u r = match r with
    | .error e => .error e
    | .ok (l, v) => .ok (l, u + v) := by cases r with
  | error e => rfl
  | ok r => obtain ⟨l, v⟩ := r; rfl
/-- wire.GetInts. -/
theorem getInts_any (A : Option Addr) (l : List UInt8) (n c : Nat) (w : World) (hn : n = l.length) (hnc : n ≤ c) (hR : Rd w A (bv l)) (hm : n ≤ 17592186044416) :
    Calls Try.prog 34 #[.slice A n c] w (GetPost w (mapOk iv (decList decInt 1 l)) 3 1) := by
  unfold decList
  cases hd : cnt l 1 with
  | error k =>
    have := cnt_err hd
    exact getInts_err A l n c k w hn hnc hR (hide hd) (by rw [bne_iff_ne]; omega)
  | ok r =>
    obtain ⟨m, u⟩ := r
    obtain ⟨h1, h2⟩ := cnt_ok hd
    obtain ⟨_, _, _, hu⟩ := dec_bounds h1
    rw [Nat.div_one] at h2
    exact getInts_ok A l n c m u w hn hnc hR (hide hd) (by omega) hm _ (hide (more_nil u _).symm)
end Go.Proofs.Ytopppkafbbfobaa.W
