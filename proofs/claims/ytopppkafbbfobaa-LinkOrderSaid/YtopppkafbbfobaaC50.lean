/- link's In: packets that are refused. -/
import Derived.Test.YtopppkafbbfobaaC46
import Derived.Test.YtopppkafbbfobaaC70
import Derived.Test.YtopppkafbbfobaaC71
import Derived.Test.YtopppkafbbfobaaC72
namespace Go.Proofs.Ytopppkafbbfobaa.W
open Go.RowKit
attribute [local go_sem ↓] Go.wp_at_zero Go.wp_at_succ
/-- What In leaves. -/
def InPost (D : Nat → Prop) (w : World) (g : Nat) (r : List Bs × Nat × St) (e : Ending) (w' : World) : Prop :=
  ∃ v vs, e = .returned (.tuple #[v, .int .i64 (r.2.1 : Int)]) ∧ Rows (fun k => Plus D w k ∧ k ≠ g) w.heap.size w' v vs r.1 ∧ IsEnd (Plus D w) w' g r.2.2 ∧ Keeps D w w'
theorem in_none {D : Nat → Prop} {w w' : World} {g : Nat} {S : St} {k : Nat} (h : IsEnd (Plus D w) w' g S) (hk : Keeps D w w') : InPost D w g ([], k, S) (.returned (.tuple #[.slice none 0 0, .int .i64 (k : Int)])) w' :=
  ⟨_, [], rfl, Rows.nil _ _ _, h, hk⟩
theorem IsEnd.plus {D : Nat → Prop} {w0 w : World} {g : Nat} {S : St} (h : IsEnd D w g S) : IsEnd (Plus D w0) w g S := h.mono fun _ _ e => .inl e
set_option maxRecDepth 100000 in
set_option maxHeartbeats 400000 in
theorem in_short (D : Nat → Prop) (g : Nat) (S : St) (hS : S.Ok) (A : Option Addr) (b : Bs) (n c : Nat) (w : World) (h : IsEnd D w g S) (hn : n = b.length) (hc : n ≤ c) (hl : n ≤ 17592186044416) (hR : Rd w A (bv b)) (ho : Hid (openP S.key b = .error 2)) :
    Calls Try.prog 50 #[.pointer (some ⟨g, 0, none⟩), .slice A n c] w (InPost D w g ([], 2, S)) := by
  obtain ⟨wv, mb, ws, L, h⟩ := h
  obtain ⟨_, c1, _⟩ := h.cells
  have hgm := lt_of_block h.blk
  have e1 : S.raw.key = S.key := rfl
  rw [e1] at c1
  have hkey := hide hS.key
  have HE := hide h
  have HN := hide hn
  clear h hn e1
  go_enter Try.func50, Try.ntmps50
  go_wp2_with fail
  refine (Open_any S.key hkey.out A b n c w HN.out hc (by omega) hR).mono ?_
  rintro e w1 ⟨hB, hp⟩
  rw [ho.out] at hp
  obtain rfl := hp
  go_wp2
  go_ret2
  exact in_none (IsEnd.plus ⟨_, _, _, _, HE.out.stays (Stays.of_new hB)⟩) (Keeps.of_new hB)
set_option maxRecDepth 100000 in
set_option maxHeartbeats 400000 in
theorem in_sum (D : Nat → Prop) (g : Nat) (S : St) (hS : S.Ok) (A : Option Addr) (b : Bs) (n c : Nat) (w : World) (h : IsEnd D w g S) (hn : n = b.length) (hc : n ≤ c) (hl : n ≤ 17592186044416) (hR : Rd w A (bv b)) (ho : Hid (openP S.key b = .error 9)) :
    Calls Try.prog 50 #[.pointer (some ⟨g, 0, none⟩), .slice A n c] w (InPost D w g ([], 9, S.forge)) := by
  obtain ⟨wv, mb, ws, L, h⟩ := h
  obtain ⟨_, c1, _, _, _, _, _, c7⟩ := h.cells
  have f7 := h.free 7
  have hgm := lt_of_block h.blk
  have e1 : S.raw.key = S.key := rfl
  have e7 : S.raw.forged = S.forged := rfl
  rw [e1] at c1
  rw [e7] at c7
  have hkey := hide hS.key
  have hfo := hS.forged
  have HE := hide h
  have HN := hide hn
  clear h hn e1 e7
  go_enter Try.func50, Try.ntmps50
  go_wp2_with fail
  refine (Open_any S.key hkey.out A b n c w HN.out hc (by omega) hR).mono ?_
  rintro e w1 ⟨hB, hp⟩
  rw [ho.out] at hp
  obtain rfl := hp
  have d7 := (hB.cell (p := ⟨g, 7, none⟩) hgm).trans c7
  have g7 := (hB.frozen (p := ⟨g, 7, none⟩) hgm).trans f7
  go_wp2
  go_ret2
  have hE1 := HE.out.stays (Stays.of_new (D := D) hB)
  have hE2 := hE1.setForged (S.forged + 1)
  rw [Int.natCast_add] at hE2
  exact in_none (S := S.forge) (IsEnd.plus ⟨_, _, _, _, hE2⟩) ((Keeps.of_new hB).setCell HE.out.dg _)
set_option maxRecDepth 100000 in
set_option maxHeartbeats 400000 in
theorem in_form (D : Nat → Prop) (g : Nat) (S : St) (hS : S.Ok) (A : Option Addr) (b : Bs) (n c : Nat) (w : World) (h : IsEnd D w g S) (hn : n = b.length) (hc : n ≤ c) (hl : n ≤ 17592186044416) (hR : Rd w A (bv b)) (cr : Bs) (ho : Hid (openP S.key b = .ok cr)) (hr : Hid (readP cr = none)) :
    Calls Try.prog 50 #[.pointer (some ⟨g, 0, none⟩), .slice A n c] w (InPost D w g ([], 2, S)) := by
  obtain ⟨wv, mb, ws, L, h⟩ := h
  obtain ⟨_, c1, _⟩ := h.cells
  have hgm := lt_of_block h.blk
  have e1 : S.raw.key = S.key := rfl
  rw [e1] at c1
  have hkey := hide hS.key
  have HE := hide h
  have HN := hide hn
  have hcl : cr.length ≤ n := by
    obtain ⟨_, e, _⟩ := open_ok ho.out
    rw [e, hn, List.length_take]
    omega
  clear h hn e1
  go_enter Try.func50, Try.ntmps50
  go_wp2_with fail
  refine (Open_any S.key hkey.out A b n c w HN.out hc (by omega) hR).mono ?_
  rintro e w1 ⟨hB, hp⟩
  rw [ho.out] at hp
  obtain ⟨vc, rfl, hoc⟩ := hp
  obtain ⟨Ac, cc, rfl, hcc, hRc⟩ := Bt.own hoc (by omega)
  go_wp2_with fail
  refine (read_any Ac cr cr.length cc w1 rfl hcc hRc (by omega)).mono ?_
  rintro e w2 ⟨hB2, s2, a2, A2, n2, c2, rfl, _⟩
  rw [hr.out]
  have hb2 := since_call hB hB2
  go_wp2
  go_ret2
  exact in_none (IsEnd.plus ⟨_, _, _, _, HE.out.stays (Stays.of_new (since_alloc hb2 _))⟩) (Keeps.of_new (since_alloc hb2 _))
end Go.Proofs.Ytopppkafbbfobaa.W
