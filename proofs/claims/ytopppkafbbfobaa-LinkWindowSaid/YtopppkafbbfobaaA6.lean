/- Detection, in plain Lean: one changed byte of sealed bytes is refused. -/
import Derived.Test.YtopppkafbbfobaaA5
namespace Go.Proofs.Ytopppkafbbfobaa.W

theorem set_split {l : Bs} {k : Nat} (hk : k < l.length) (c : UInt8) : l.set k c = l.take k ++ c :: l.drop (k + 1) := by
  rw [List.set_eq_take_append_cons_drop, if_pos hk]
theorem split_at {l : Bs} {k : Nat} (hk : k < l.length) : l = l.take k ++ l.getD k 0 :: l.drop (k + 1) := by
  have h := List.take_append_drop k l
  rw [List.drop_eq_getElem_cons hk] at h
  rw [List.getD_eq_getElem?_getD, List.getElem?_eq_getElem hk]
  exact h.symm
theorem open_bent {key : Nat} (hk : key < 18446744073709551616) (l : Bs) {k : Nat} (h : k < (sealed key l).length) {c : UInt8} (hc : c ≠ (sealed key l).getD k 0) : openP key ((sealed key l).set k c) = .error 9 := by
  have hlen : ((sealed key l).set k c).length = l.length + 8 := by rw [List.length_set, sealed_length]
  unfold openP
  rw [hlen, if_neg (by omega), show l.length + 8 - 8 = l.length from by omega]
  rw [if_neg]
  intro e
  rw [sealed_length] at h
  by_cases hkl : k < l.length
  · have e1 : ((sealed key l).set k c).take l.length = l.set k c := by
      unfold sealed
      rw [List.set_append_left _ _ hkl]
      exact List.take_left' (by simp)
    have e2 : ((sealed key l).set k c).drop l.length = stamp key l := by
      unfold sealed
      rw [List.set_append_left _ _ hkl]
      exact List.drop_left' (by simp)
    rw [e1, e2] at e
    have e3 := stamp_inj hk hk e
    rw [set_split hkl c] at e3
    have e4 : fnv key l = fnv key (l.take k ++ l.getD k 0 :: l.drop (k + 1)) := by rw [← split_at hkl]
    rw [e4] at e3
    have := fnv_change hk _ _ _ _ e3
    apply hc
    rw [this]
    unfold sealed
    simp only [List.getD_eq_getElem?_getD]
    rw [List.getElem?_append_left hkl]
  · have e1 : ((sealed key l).set k c).take l.length = l := by
      unfold sealed
      rw [List.set_append_right _ _ (by omega)]
      exact List.take_left' rfl
    have e2 : ((sealed key l).set k c).drop l.length = (stamp key l).set (k - l.length) c := by
      unfold sealed
      rw [List.set_append_right _ _ (by omega)]
      exact List.drop_left' rfl
    rw [e1, e2] at e
    have hs := stamp_length key l
    have e5 : (stamp key l).getD (k - l.length) 0 = ((stamp key l).set (k - l.length) c).getD (k - l.length) 0 := congrArg (fun x : Bs => x.getD (k - l.length) 0) e
    rw [List.getD_eq_getElem?_getD (l := (stamp key l).set (k - l.length) c), List.getElem?_set_self (by omega)] at e5
    apply hc
    unfold sealed
    rw [List.getD_eq_getElem?_getD, List.getElem?_append_right (by omega), ← List.getD_eq_getElem?_getD]
    exact e5.symm
theorem open_bent_any {key : Nat} (hk : key < 18446744073709551616) (l : Bs) {k : Nat} (h : k < (sealed key l).length) (d : UInt8) (hd : d ≠ 0) : openP key ((sealed key l).set k ((sealed key l).getD k 0 ^^^ d)) = .error 9 :=
  open_bent hk l h fun e => hd (by
    have h2 := congrArg (fun x => x ^^^ (sealed key l).getD k 0) e
    simp only [UInt8.xor_comm _ d, UInt8.xor_assoc, UInt8.xor_self, UInt8.xor_zero] at h2
    exact h2)
end Go.Proofs.Ytopppkafbbfobaa.W
