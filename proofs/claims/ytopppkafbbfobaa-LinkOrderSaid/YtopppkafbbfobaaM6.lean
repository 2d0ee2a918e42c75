/- Two ends and a list of slices, through calls; the example of the section in plain Lean. -/
import Derived.Test.YtopppkafbbfobaaM5
import Derived.Test.YtopppkafbbfobaaC5T
import Derived.Test.YtopppkafbbfobaaC47
import Derived.Test.YtopppkafbbfobaaC54
import Derived.Test.YtopppkafbbfobaaC44
import Derived.Test.YtopppkafbbfobaaC48
import Derived.Test.YtopppkafbbfobaaC19
namespace Go.Proofs.Ytopppkafbbfobaa.W
open Go.RowKit
def Sys (w0 : World) (f : Nat → Nat) (w : World) (ga gb : Nat) (A B : St) (v : Value) (vs : List Value) (ls : List Bs) : Prop :=
  Base w0 f w ∧ IsEnd (Z f w 0) w ga A ∧ IsEnd (Z f w 1) w gb B ∧ Lst (Z f w 2) w v vs ls
theorem IsEnd.zfirst {f : Nat → Nat} {w w' : World} {i g : Nat} {S : St} (h : IsEnd (fun k => w.heap.size ≤ k) w' g S) : IsEnd (Z (ext f w i) w' i) w' g S := h.mono fun _ hk e => Z.fresh e hk
section
variable {w0 : World} {f : Nat → Nat} {w w' : World} {ga gb : Nat} {A B : St} {v : Value} {vs : List Value} {ls : List Bs}
theorem Sys.new (h : Sys w0 f w ga gb A B v vs ls) (hb : Below w.heap.size w w') : ∃ f', Sys w0 f' w' ga gb A B v vs ls :=
  ⟨ext f w 9, h.1.new hb 9, h.2.1.znew hb, h.2.2.1.znew hb, h.2.2.2.znew hb⟩
theorem Sys.left {A' : St} (h : Sys w0 f w ga gb A B v vs ls) (hE : IsEnd (Plus (Z f w 0) w) w' ga A') (hK : Keeps (Z f w 0) w w') : ∃ f', Sys w0 f' w' ga gb A' B v vs ls :=
  ⟨ext f w 0, h.1.step hK (by decide) 0, hE.zown, h.2.2.1.zoth hK (by decide), h.2.2.2.zoth hK (by decide)⟩
theorem Sys.right {B' : St} (h : Sys w0 f w ga gb A B v vs ls) (hE : IsEnd (Plus (Z f w 1) w) w' gb B') (hK : Keeps (Z f w 1) w w') : ∃ f', Sys w0 f' w' ga gb A B' v vs ls :=
  ⟨ext f w 1, h.1.step hK (by decide) 1, h.2.1.zoth hK (by decide), hE.zown, h.2.2.2.zoth hK (by decide)⟩
theorem Sys.outLeft {v' : Value} {vs' : List Value} (h : Sys w0 f w ga gb A B v vs ls) (hl : A.out.length ≤ 9223372036854775807) (hr : Rows (fun k => w.heap.size ≤ k) w.heap.size w' v' vs' A.out) (hE : IsEnd (Z f w 0) w' ga A.quiet) (hK : Keeps (· = ga) w w') : ∃ f', Sys w0 f' w' ga gb A.quiet B v' vs' A.out :=
  have hK0 := hK.zone h.2.1.dg
  ⟨ext f w 2, h.1.step hK0 (by decide) 2, hE.plusz hK.size 2, (h.2.2.1.stays (Z.stays hK0 (by decide))).plusz hK.size 2, (hr.fresh hl).zown⟩
theorem Sys.outRight {v' : Value} {vs' : List Value} (h : Sys w0 f w ga gb A B v vs ls) (hl : B.out.length ≤ 9223372036854775807) (hr : Rows (fun k => w.heap.size ≤ k) w.heap.size w' v' vs' B.out) (hE : IsEnd (Z f w 1) w' gb B.quiet) (hK : Keeps (· = gb) w w') : ∃ f', Sys w0 f' w' ga gb A B.quiet v' vs' B.out :=
  have hK1 := hK.zone h.2.2.1.dg
  ⟨ext f w 2, h.1.step hK1 (by decide) 2, (h.2.1.stays (Z.stays hK1 (by decide))).plusz hK.size 2, hE.plusz hK.size 2, (hr.fresh hl).zown⟩
end
theorem send_fine (D : Nat → Prop) (g : Nat) (S : St) (A : Option Addr) (b : Bs) (n c : Nat) (w : World) (hS : S.Ok) (h : IsEnd D w g S) (hn : n = b.length) (hl : n ≤ 140737488355000) (hR : Rd w A (bv b)) (hf : S.full b = false) :
    Calls Try.prog 54 #[.pointer (some ⟨g, 0, none⟩), .slice A n c] w fun e w' => e = .returned (.int .i64 0) ∧ IsEnd (Plus D w) w' g (S.send b) ∧ Keeps D w w' :=
  (send_any D g S A b n c w hS h hn hl hR).mono fun e w' h => by
    unfold SendPost at h
    rw [if_neg (by rw [hf]; decide)] at h
    exact h
/- The example. -/
def xA0 : St := St.new 2 9
def xA3 : St := ((xA0.send [97]).send [98]).send [99]
def xB1 : St := ⟨2, 9, [], 0, 0, [(2, [98])], true, 0⟩
def xB2 : St := ⟨2, 9, [], 0, 2, [], true, 0⟩
def xA4 : St := ⟨2, 9, [[97], [98], [99]], 2, 0, [], false, 0⟩
theorem x1 : xA3.out = [pkt 9 1 0 [97], pkt 9 2 0 [98]] := rfl
theorem x2 : xA0.inn (pkt 9 2 0 [98]) = ([], 0, xB1) := (inn_pkt (S := xA0) (by decide) (by decide) (by decide) (by decide)).trans rfl
theorem x3 : xB1.inn (pkt 9 1 0 [97]) = ([[97], [98]], 0, xB2) := (inn_pkt (S := xB1) (by decide) (by decide) (by decide) (by decide)).trans rfl
theorem x4 : xB2.out = [pkt 9 0 2 []] := rfl
theorem x5 : xA3.quiet.inn (pkt 9 0 2 []) = ([], 0, xA4) := (inn_pkt (S := xA3.quiet) (by decide) (by decide) (by decide) (by decide)).trans rfl
theorem x6 : xA4.out = [pkt 9 3 0 [99]] := rfl
theorem okA0 : xA0.Ok := by constructor <;> decide
theorem okA1 : (xA0.send [97]).Ok := by constructor <;> decide
theorem okA2 : ((xA0.send [97]).send [98]).Ok := by constructor <;> decide
theorem okA3 : xA3.Ok := by constructor <;> decide
theorem okA3q : xA3.quiet.Ok := by constructor <;> decide
theorem okB1 : xB1.Ok := by constructor <;> decide
theorem okB2 : xB2.Ok := by constructor <;> decide
theorem okA4 : xA4.Ok := by constructor <;> decide
theorem okA5 : xA4.quiet.Ok := by constructor <;> decide
theorem pkt_length (key s a : Nat) (m : Bs) : (pkt key s a m).length ≤ 44 + m.length := by
  have h1 := encInts2_length (s : Int) (a : Int)
  have h2 := encBytes_length m
  unfold pkt
  rw [sealed_length, encPkt, List.length_append]
  omega
end Go.Proofs.Ytopppkafbbfobaa.W
