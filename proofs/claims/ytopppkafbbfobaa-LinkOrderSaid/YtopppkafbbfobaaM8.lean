/- Two ends by number, blocks of the law's own, and the law's 'ends'. -/
import Derived.Test.YtopppkafbbfobaaM6
import Derived.Test.YtopppkafbbfobaaA7
namespace Go.Proofs.Ytopppkafbbfobaa.W
open Go.RowKit
def upd {α : Type} (E : Nat → α) (k : Nat) (x : α) (j : Nat) : α := if j = k then x else E j
theorem upd_same {α : Type} (E : Nat → α) (k : Nat) (x : α) : upd E k x k = x := if_pos rfl
theorem upd_other {α : Type} (E : Nat → α) {k j : Nat} (x : α) (h : j ≠ k) : upd E k x j = E j := if_neg h
/-- A block of an owner that holds this. -/
def At (f : Nat → Nat) (w : World) (j b : Nat) (o : Obj) : Prop := Z f w j b ∧ w.heap[b]? = some o
section
variable {f : Nat → Nat} {w w' : World} {i j b : Nat} {o : Obj}
theorem At.new (h : At f w j b o) (hb : Below w.heap.size w w') (l : Nat) : At (ext f w l) w' j b o := ⟨Z.old h.1 hb.size, (hb.block b h.1.2).trans h.2⟩
theorem At.oth (h : At f w j b o) (hK : Keeps (Z f w i) w w') (hj : j ≠ i) (l : Nat) : At (ext f w l) w' j b o := ⟨Z.old h.1 hK.size, (hK.block b h.1.2 (fun e => hj (h.1.1.symm.trans e.1))).trans h.2⟩
theorem At.made (o : Obj) (l : Nat) : At (ext f w l) (w.alloc o) l w.heap.size o := ⟨Z.fresh (Nat.le_refl _) (by simp), heap_alloc_new w o⟩
theorem At.cell {cs : Array Value} {t : TypeId} {fr : Nat × Nat} (h : At f w j b (.cells cs t fr)) (n : Nat) : w.cell? ⟨b, n, none⟩ = cs[n]? := cell_of_row w b n cs t fr h.2
theorem At.free {cs : Array Value} {t : TypeId} (h : At f w j b (.cells cs t (0, 0))) (n : Nat) : w.frozen? ⟨b, n, none⟩ = false := frozen_of_row w b n cs t h.2
theorem At.stays {X : Nat → Prop} (h : At f w j b o) (hs : Stays X w w') (hx : X b) : w'.heap[b]? = some o := (hs b h.1.2 hx).trans h.2
end
/-- Two integers side by side. -/
def ints2 (a : Nat → Nat) : Obj := .cells #[.int .i64 (a 0 : Int), .int .i64 (a 1 : Int)] 3 (0, 0)
theorem At.int {f : Nat → Nat} {w : World} {j b : Nat} {a : Nat → Nat} (h : At f w j b (ints2 a)) {k : Nat} (hk : k < 2) : w.cell? ⟨b, k, none⟩ = some (.int .i64 (a k : Int)) := by
  rw [h.cell]
  obtain rfl | rfl : k = 0 ∨ k = 1 := by omega
  · rfl
  · rfl
theorem At.setInt {f : Nat → Nat} {w : World} {j b : Nat} {a : Nat → Nat} (h : At f w j b (ints2 a)) {k : Nat} (hk : k < 2) (v : Nat) (l : Nat) : At (ext f w l) (w.setCell ⟨b, k, none⟩ (.int .i64 (v : Int))) j b (ints2 (upd a k v)) := by
  refine ⟨Z.old h.1 (by simp [World.setCell]), ?_⟩
  rw [heap_setCell_at h.2]
  obtain rfl | rfl : k = 0 ∨ k = 1 := by omega
  · rfl
  · rfl
theorem keeps_set {f : Nat → Nat} {w : World} {j b : Nat} (h : Z f w j b) (k : Nat) (u : Value) : Keeps (Z f w j) w (w.setCell ⟨b, k, none⟩ u) := (Keeps.refl _ _).setCell (p := ⟨b, k, none⟩) h u
/-- Two ends, and the row that holds their addresses. -/
structure Two (w0 : World) (f : Nat → Nat) (w : World) (be : Nat) (G : Nat → Nat) (E : Nat → St) : Prop where
  base : Base w0 f w
  row : At f w 2 be (.cells #[.pointer (some ⟨G 0, 0, none⟩), .pointer (some ⟨G 1, 0, none⟩)] 57 (0, 0))
  ends : ∀ k, k < 2 → IsEnd (Z f w k) w (G k) (E k)
section
variable {w0 : World} {f : Nat → Nat} {w w' : World} {be : Nat} {G : Nat → Nat} {E : Nat → St}
theorem Two.cell (h : Two w0 f w be G E) {k : Nat} (hk : k < 2) : w.cell? ⟨be, k, none⟩ = some (.pointer (some ⟨G k, 0, none⟩)) := by
  rw [h.row.cell]
  obtain rfl | rfl : k = 0 ∨ k = 1 := by omega
  · rfl
  · rfl
theorem Two.new (h : Two w0 f w be G E) (hb : Below w.heap.size w w') (l : Nat) : Two w0 (ext f w l) w' be G E := ⟨h.base.new hb l, h.row.new hb l, fun k hk => (h.ends k hk).znew hb⟩
theorem Two.put (h : Two w0 f w be G E) {k : Nat} (hk : k < 2) {S : St} (hK : Keeps (Z f w k) w w') (hE : IsEnd (Plus (Z f w k) w) w' (G k) S) : Two w0 (ext f w k) w' be G (upd E k S) := by
  refine ⟨h.base.step hK (by omega) k, h.row.oth hK (by omega) k, fun j hj => ?_⟩
  by_cases e : j = k
  · subst e; rw [upd_same]; exact hE.zown
  · rw [upd_other _ _ e]; exact (h.ends j hj).zoth hK e
theorem Two.out (h : Two w0 f w be G E) {k : Nat} (hk : k < 2) {S : St} (hK : Keeps (· = G k) w w') (hE : IsEnd (Z f w k) w' (G k) S) (l : Nat) : Two w0 (ext f w l) w' be G (upd E k S) := by
  have hK0 := hK.zone (h.ends k hk).dg
  refine ⟨h.base.step hK0 (by omega) l, h.row.oth hK0 (by omega) l, fun j hj => ?_⟩
  by_cases e : j = k
  · subst e; rw [upd_same]; exact hE.plusz hK.size l
  · rw [upd_other _ _ e]; exact ((h.ends j hj).stays (Z.stays hK0 e)).plusz hK.size l
theorem Two.oth (h : Two w0 f w be G E) {j : Nat} (hj : 2 < j) (hj9 : j ≠ 9) (hK : Keeps (Z f w j) w w') (l : Nat) : Two w0 (ext f w l) w' be G E :=
  ⟨h.base.step hK hj9 l, h.row.oth hK (by omega) l, fun k hk => ((h.ends k hk).stays (Z.stays hK (by omega))).plusz hK.size l⟩
theorem Lst.oth {i j : Nat} {v : Value} {vs : List Value} {ls : List Bs} (h : Lst (Z f w j) w v vs ls) (hK : Keeps (Z f w i) w w') (hj : j ≠ i) (l : Nat) : Lst (Z (ext f w l) w' j) w' v vs ls := (h.stays (Z.stays hK hj)).mono fun _ _ e => Z.old e hK.size
theorem Lst.nw {j : Nat} {v : Value} {vs : List Value} {ls : List Bs} (h : Lst (Z f w j) w v vs ls) (hb : Below w.heap.size w w') (l : Nat) : Lst (Z (ext f w l) w' j) w' v vs ls := (h.stays (Stays.of_new hb)).mono fun _ _ e => Z.old e hb.size
end
theorem upd_upd {α : Type} (E : Nat → α) (k : Nat) (x y : α) : upd (upd E k x) k y = upd E k y := by
  funext j
  unfold upd
  split <;> rfl
theorem tdiv_I64 {x m : Int} (hx : I64 x) (hm : 1 ≤ m) : I64 (x.tdiv m) := by
  obtain ⟨h1, h2⟩ := hx
  by_cases h : 0 ≤ x
  · rw [Int.tdiv_eq_ediv_of_nonneg h]
    have := Int.ediv_le_self m h
    have := Int.ediv_nonneg h (show 0 ≤ m by omega)
    exact ⟨by omega, by omega⟩
  · have e : x.tdiv m = -((-x) / m) := by rw [← Int.tdiv_eq_ediv_of_nonneg (by omega), Int.neg_tdiv, Int.neg_neg]
    have := Int.ediv_le_self m (show 0 ≤ -x by omega)
    have := Int.ediv_nonneg (show 0 ≤ -x by omega) (show 0 ≤ m by omega)
    rw [e]
    exact ⟨by omega, by omega⟩
/-- The windows of a law's two ends. -/
def winOf (x : Int) (k : Nat) : Nat := if k = 0 then 1 + mag x % 16 else 1 + mag (x.tdiv 16) % 16
theorem winOf_bounds (x : Int) (k : Nat) : 1 ≤ winOf x k ∧ winOf x k ≤ 16 := by unfold winOf; split <;> omega
def EndsPost (x : Int) (key : Nat) (w : World) (e : Ending) (w' : World) : Prop :=
  ∃ f be G, e = .returned (.slice (some ⟨be, 0, none⟩) 2 2) ∧ Two w f w' be G (fun k => St.new (winOf x k) key)
set_option maxRecDepth 100000 in
set_option maxHeartbeats 800000 in
theorem ends_any (x : Int) (hx : I64 x) (key : Nat) (w : World) : Calls Try.prog 58 #[.int .i64 x, .int .u64 (key : Int)] w (EndsPost x key w) := by
  have hx1 := hx.1
  have hx2 := hx.2
  have HX := hide hx
  clear hx
  go_enter Try.func58, Try.ntmps58
  go_wp2_with fail
  refine (around_any x HX.out 16 (by omega) (by omega) w).mono ?_
  rintro e w' ⟨rfl, rfl⟩
  obtain ⟨p, hp⟩ : ∃ p, p = mag x % 16 := ⟨_, rfl⟩
  have hp16 : p < 16 := by rw [hp]; exact Nat.mod_lt _ (by omega)
  rw [← hp]
  have h1 := new_ok (1 + p) key w (by omega) (by omega)
  rw [Int.natCast_add] at h1
  have HP := hide hp
  have H1 := hide h1
  clear hp h1
  go_wp2_with fail
  refine H1.out.mono ?_
  rintro e w1 ⟨ga, rfl, hA, hB1⟩
  clear H1
  have hI := tdiv_I64 HX.out (m := 16) (by omega)
  have hI1 := hI.1
  have hI2 := hI.2
  have HI := hide hI
  clear hI
  go_wp2_with fail
  refine (around_any (x.tdiv 16) HI.out 16 (by omega) (by omega) w1).mono ?_
  rintro e w' ⟨rfl, rfl⟩
  obtain ⟨q, hq⟩ : ∃ q, q = mag (x.tdiv 16) % 16 := ⟨_, rfl⟩
  have hq16 : q < 16 := by rw [hq]; exact Nat.mod_lt _ (by omega)
  rw [← hq]
  have h1 := new_ok (1 + q) key w1 (by omega) (by omega)
  rw [Int.natCast_add] at h1
  have HQ := hide hq
  have H1 := hide h1
  clear hq h1
  go_wp2_with fail
  refine H1.out.mono ?_
  rintro e w2 ⟨gb, rfl, hB, hB2⟩
  clear H1
  go_wp2_with fail
  go_ret
  have e0 : winOf x 0 = 1 + p := by unfold winOf; rw [if_pos rfl, HP.out]
  have e1 : winOf x 1 = 1 + q := by unfold winOf; rw [if_neg (by decide), HQ.out]
  have hbl := (Below.refl w2.heap.size w2).alloc (Nat.le_refl _) (.cells #[.pointer (some ⟨ga, 0, none⟩), .pointer (some ⟨gb, 0, none⟩)] 57)
  refine ⟨ext (ext (ext (fun _ => 9) w 0) w1 1) w2 2, w2.heap.size, fun k => if k = 0 then ga else gb, rfl, (((Base.start w).new hB1 0).new hB2 1).new hbl 2, At.made _ 2, fun k hk => ?_⟩
  obtain rfl | rfl : k = 0 ∨ k = 1 := by omega
  · rw [e0]
    exact ((hA.zfirst (f := fun _ => 9) (i := 0)).znew hB2).znew hbl
  · rw [e1]
    exact hB.zfirst.znew hbl
end Go.Proofs.Ytopppkafbbfobaa.W
