/- slices.Delete at rows of slices: the first n go. -/
import Derived.Test.YtopppkafbbfobaaC51
import Derived.Deep.DeepAppendRoom
import Derived.Deep.RegionLaw
import Derived.Lib.SliceRun
namespace Go.Proofs.Ytopppkafbbfobaa.W
open Go.RowKit
attribute [local go_sem ↓] Go.wp_at_zero Go.wp_at_succ
theorem zero28 (w : World) : (zeroValue 28).run Try.prog w = .ok (.slice none 0 0) w := by kernel_rfl
theorem addr_add' (b off j : Nat) : (⟨b, off, none⟩ : Addr).add j = ⟨b, off + j, none⟩ := by unfold Addr.add; split <;> simp_all
theorem run_cut_all63 (A : Option Addr) (n c : Nat) (h m : Int) (h1 : 0 ≤ h) (h2 : h ≤ m) (h3 : m ≤ c) : ∃ v, ∀ W, (Instr.sliceAt 63 (.slice A n c) (some (.int .i64 0)) (some (.int .i64 h)) (some (.int .i64 m))).run Try.prog W = .ok v W := by
  refine ⟨.slice (cutAt A m.toNat 0 1) h.toNat m.toNat, fun W => ?_⟩
  have he : Try.prog.elem 63 = 28 := by simp [Program.elem, Try.underlying63]
  have ht' : Try.prog.underlying 63 = some (.slice (Try.prog.elem 63)) := by rw [he]; exact Try.underlying63
  rw [run_sliceAt_slice W 63 _ _ _ _ ht', run_slice_lhm W 63 A n c ht' _ _ _ 0 h m (Int.le_refl _) h1 h2 h3, he, run_sizeOf cel28 ino28]
  rfl
theorem own_set_past {w : World} {base : Nat} {g n c o : Nat} {xs : List Value} (h : w.ownsRow base 28 1 (.slice (some ⟨g, 0, none⟩) n c) n xs) (ho : n ≤ o) (u : Value) : (w.setCell ⟨g, o, none⟩ u).ownsRow base 28 1 (.slice (some ⟨g, 0, none⟩) n c) n xs := by
  refine ⟨h.1, ?_⟩
  rcases h.2 with ⟨h0, _⟩ | ⟨g', cap, cur, hv, hb, hg, hc, hm, hs, ht⟩
  · cases h0
  · cases hv
    refine .inr ⟨g, c, cur.setIfInBounds o u, rfl, hb, heap_setCell_at hg u, hc, hm, by simpa using hs, ?_⟩
    rw [← ht]
    simp only [Array.toList_setIfInBounds]
    rw [List.take_set_of_le (by omega)]
theorem own_sets_past {base : Nat} {g n c : Nat} {xs : List Value} : ∀ (vs : List Value) (o : Nat) (w : World), w.ownsRow base 28 1 (.slice (some ⟨g, 0, none⟩) n c) n xs → n ≤ o → (w.setCells g o vs).ownsRow base 28 1 (.slice (some ⟨g, 0, none⟩) n c) n xs
  | [], _, _, h, _ => h
  | v :: vs, o, _, h, ho => own_sets_past vs (o + 1) _ (own_set_past h ho v) (by omega)
theorem keeps_sets {g : Nat} {w0 : World} : ∀ (vs : List Value) (o : Nat) (w : World), Keeps (· = g) w0 w → Keeps (· = g) w0 (w.setCells g o vs)
  | [], _, _, h => h
  | v :: vs, o, _, h => keeps_sets vs (o + 1) _ (Keeps.setCell (D := (· = g)) (p := ⟨g, o, none⟩) h rfl v)
/-- An append where there is room, as a step of a region. -/
theorem step_spare {ops : Array Oper} {o : Oper} {a : Act} {K : Act → World → Prop} {Q : Exit → Act → World → Prop} {E : Prop} {w : World} (hgd : o.guard = none) (s x : Operand)
    (ho : o.op = .call { callee := .builtin .append, args := #[s, x], argTypes := #[63, 63] }) (g n cap : Nat) (xs : List Value) (hs : a.eval s = .slice (some ⟨g, 0, none⟩) n cap) (hown : w.ownsRow 0 28 1 (.slice (some ⟨g, 0, none⟩) n cap) n xs)
    (ad : Addr) (m c : Nat) (news : List Value) (hx : a.eval x = .slice (some ad) m c) (hl : news.length = m) (hnews : ∀ j u, news[j]? = some u → w.cell? (ad.add j) = some u) (h1 : ∀ u ∈ news, u.oneCell' = true) (hroom : n + m ≤ cap)
    (h : ∀ w', w'.ownsRow 0 28 1 (.slice (some ⟨g, 0, none⟩) (n + m) cap) (n + m) (xs ++ news) → w.grownBy w' (some g) → K (a.put o.dst (.slice (some ⟨g, 0, none⟩) (n + m) cap)) w') :
    if Region.wanted o (yielded ops a.tmps) = true then Oper.wp Try.prog o a w K Q else E := by
  have hw : Region.wanted o (yielded ops a.tmps) = true := by simp [Region.wanted, hgd]
  rw [if_pos hw]
  obtain ⟨i0, hi0, hz0, hz1, hz2⟩ := info_parts inf28
  obtain ⟨w', hr, h2, h3⟩ := run_append_own_spare (P := Try.prog) (ty := o.type) w 0 63 28 i0 1 Try.underlying63 hi0 hz1 g n cap xs hown ad m c news (by omega) hnews h1 hroom
  unfold Oper.wp execOp
  simp only [ho, resolve, invoke, builtin, Sem.run_bind, Sem.run_pure, Result.andThen_ok, List.map_toArray, List.map_cons, List.map_nil, hs, hx, hr]
  exact h w' h2 h3
theorem step_spare0 {ops : Array Oper} {o : Oper} {a : Act} {K : Act → World → Prop} {Q : Exit → Act → World → Prop} {E : Prop} {w : World} (hgd : o.guard = none) (s x : Operand)
    (ho : o.op = .call { callee := .builtin .append, args := #[s, x], argTypes := #[63, 63] }) (g cap : Nat) (hs : a.eval s = .slice (some ⟨g, 0, none⟩) 0 cap) (hown : w.ownsRow 0 28 1 (.slice (some ⟨g, 0, none⟩) 0 cap) 0 [])
    (ad : Addr) (m c : Nat) (news : List Value) (hx : a.eval x = .slice (some ad) m c) (hl : news.length = m) (hnews : ∀ j u, news[j]? = some u → w.cell? (ad.add j) = some u) (h1 : ∀ u ∈ news, u.oneCell' = true) (hroom : m ≤ cap)
    (h : ∀ w', w'.ownsRow 0 28 1 (.slice (some ⟨g, 0, none⟩) m cap) m news → w.grownBy w' (some g) → K (a.put o.dst (.slice (some ⟨g, 0, none⟩) m cap)) w') :
    if Region.wanted o (yielded ops a.tmps) = true then Oper.wp Try.prog o a w K Q else E :=
  step_spare hgd s x ho g 0 cap [] hs hown ad m c news hx hl hnews h1 (by omega) fun w' h2 h3 => by
    rw [Nat.zero_add] at h2 ⊢
    exact h w' h2 h3
theorem clear_at {w1 : World} {g k n c : Nat} {xs : List Value} (h : w1.ownsRow 0 28 1 (.slice (some ⟨g, 0, none⟩) k c) k xs) (h0 : 0 < n) (hn : k + n ≤ c) (C : Nat) (ty : TypeId) :
    (Builtin.clear_ #[63] ty #[.slice (some ⟨g, k, none⟩) n C]).run Try.prog w1 = .ok (.tuple #[]) (w1.setCells g k (List.replicate n (.slice none 0 0))) := by
  rcases h.2 with ⟨e0, _⟩ | ⟨g', cap, cur, hv, _, hg, hc, hm, hs, ht⟩
  · cases e0
  · cases hv
    refine Lib.run_clear_slice w1 63 28 ty _ Try.underlying63 zero28 rfl rfl g k n C h0 (fun j hj => ?_) (fun j hj => frozen_of_row w1 g (k + j) cur 28 hg)
    rw [cell_of_row w1 g (k + j) cur 28 (0, 0) hg, Array.getElem?_eq_getElem (by omega)]
    rfl
set_option maxRecDepth 100000 in
set_option maxHeartbeats 800000 in
theorem delete_any (g m c n : Nat) (ws : List Value) (w : World) (hm : m = ws.length) (h0 : 0 < n) (hn : n ≤ m) (hown : w.ownsRow 0 28 1 (.slice (some ⟨g, 0, none⟩) m c) m ws) (h1 : ∀ u ∈ ws, u.oneCell' = true) :
    Calls Try.prog 71 #[.slice (some ⟨g, 0, none⟩) m c, .int .i64 0, .int .i64 (n : Int)] w fun e w' => e = .returned (.slice (some ⟨g, 0, none⟩) (m - n) c) ∧ w'.ownsRow 0 28 1 (.slice (some ⟨g, 0, none⟩) (m - n) c) (m - n) (ws.drop n) ∧ Keeps (· = g) w w' := by
  obtain ⟨cur, hg, hmc, hcm, hcs, htake⟩ : ∃ cur : Array Value, w.heap[g]? = some (.cells cur 28 (0, 0)) ∧ m ≤ c ∧ c ≤ maxLen ∧ cur.size = c ∧ cur.toList.take m = ws := by
    rcases hown.2 with ⟨e0, _⟩ | ⟨g', cap, cur, hv, _, hg, hc, hm, hs, ht⟩
    · cases e0
    · cases hv
      exact ⟨cur, hg, hc, hm, by simpa using hs, by simpa using ht⟩
  have hcm' : c ≤ 9223372036854775807 := by unfold maxLen at hcm; omega
  obtain ⟨v13, hall⟩ := run_cut_all63 (some ⟨g, 0, none⟩) m c (n : Int) (m : Int) (by omega) (by omega) (by omega)
  have hcut1 := run_cut_to Try.underlying63 cel28 ino28 (some ⟨g, 0, none⟩) m c 0 (by omega) (by omega)
  rw [cutAt_zero] at hcut1
  have hcut2 := run_cut_from Try.underlying63 cel28 ino28 (some ⟨g, 0, none⟩) m c (n : Int) (by omega) (by omega)
  rw [Int.toNat_natCast] at hcut2
  obtain ⟨ad, had, hnews⟩ : ∃ ad : Addr, cutAt (some ⟨g, 0, none⟩) c n 1 = some ad ∧ ∀ j u, (ws.drop n)[j]? = some u → w.drew.cell? (ad.add j) = some u := by
    unfold cutAt
    by_cases hcn : c = n
    · refine ⟨⟨g, 0, none⟩, if_pos hcn, fun j u hu => ?_⟩
      rw [List.drop_of_length_le (by omega)] at hu
      simp at hu
    · refine ⟨⟨g, n, none⟩, by rw [if_neg hcn, Nat.mul_one, Option.map_some, addr_add', Nat.zero_add], fun j u hu => ?_⟩
      rw [addr_add']
      have := hown.cells (g := g) rfl (n + j) u (by rw [List.getElem?_drop] at hu; exact hu)
      rwa [addr_add', Nat.zero_add] at this
  rw [had] at hcut2
  have hcut3 := run_cut Try.underlying63 cel28 ino28 (some ⟨g, 0, none⟩) (m - n) c ((m - n : Nat) : Int) (m : Int) (by omega) (by omega) (by omega)
  rw [Int.toNat_natCast, Int.toNat_natCast, show m - (m - n) = n from by omega, show cutAt (some ⟨g, 0, none⟩) c (m - n) 1 = some ⟨g, m - n, none⟩ from by unfold cutAt; rw [if_neg (by omega), Nat.mul_one, Option.map_some, addr_add', Nat.zero_add]] at hcut3
  have hown0 : w.drew.ownsRow 0 28 1 (.slice (some ⟨g, 0, none⟩) 0 c) 0 [] := ⟨rfl, .inr ⟨g, c, cur, rfl, Nat.zero_le _, hg, Nat.zero_le _, hcm, by simpa using hcs, by simp⟩⟩
  have hnl := hide (show (ws.drop n).length = m - n from by rw [List.length_drop, hm])
  have hon := hide (show ∀ u ∈ ws.drop n, u.oneCell' = true from fun u hu => h1 u (List.mem_of_mem_drop hu))
  have hne : (((0 : Int)) == (n : Int)) = false := by rw [beq_eq_false_iff_ne]; omega
  have hroom : m - n ≤ c := by omega
  have HN := hide hnews
  clear hnews hm h1 htake hcs had hcm hg
  go_enter Try.func71, Try.ntmps71
  go_wp2_with fail
  go_region_law ((refine step_spare0 (by rfl) _ _ (by rfl) g c (by rfl) hown0 ad (m - n) (c - n) (ws.drop n) (by rfl) hnl.out HN.out hon.out hroom ?_; intro w1 ho1 hg1))
  have hcl := clear_at (n := n) ho1 h0 (by omega) (c - (m - n))
  go_wp2_with (simp only [hcl])
  go_ret
  exact ⟨rfl, own_sets_past _ _ _ ho1 (Nat.le_refl _), keeps_sets _ _ _ ⟨hg1.os, hg1.tape, hg1.output, hg1.size, fun k hk hne => hg1.block k hk (fun e => hne (by cases e; rfl))⟩⟩
end Go.Proofs.Ytopppkafbbfobaa.W
