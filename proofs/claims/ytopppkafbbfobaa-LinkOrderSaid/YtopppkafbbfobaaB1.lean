/- Words on memory: cuts of slices that are read; strings. -/
import Derived.Test.YtopppkafbbfobaaB0
import Derived.Lib.AppendStr
namespace Go.Proofs.Ytopppkafbbfobaa.W
open Go.RowKit

/-- A string's value. -/
def str (l : List UInt8) : Value := .string ⟨l.toArray⟩
theorem str_size (l : List UInt8) : (⟨l.toArray⟩ : ByteArray).size = l.length := by simp [ByteArray.size]
theorem str_ex (s : ByteArray) : ∃ l : List UInt8, s = ⟨l.toArray⟩ := ⟨s.data.toList, by simp⟩
theorem strCells_bv (l : List UInt8) : Lib.strCells ⟨l.toArray⟩ = bv l := by simp [Lib.strCells, bv]

/-- Where a cut lies. -/
def cutAt (A : Option Addr) (c lo sz : Nat) : Option Addr := if c = lo then A else A.map (·.add (lo * sz))
theorem Rd.cut {w : World} {A : Option Addr} {xs : List Value} {n c sz : Nat} (h : Rd w A xs) (hn : xs.length = n * sz) (hnc : n ≤ c) (lo hi : Nat) (h2 : hi ≤ n) : Rd w (cutAt A c lo sz) ((xs.drop (lo * sz)).take ((hi - lo) * sz)) := by
  have hl : ((xs.drop (lo * sz)).take ((hi - lo) * sz)).length ≤ xs.length := by simp; omega
  refine ⟨Nat.le_trans hl h.1, fun h0 => ?_⟩
  have hx : 0 < xs.length := by omega
  have hlt : lo < hi := by
    rcases Nat.lt_or_ge lo hi with h | h
    · exact h
    · rw [Nat.sub_eq_zero_of_le h, Nat.zero_mul, List.take_zero] at h0; simp at h0
  obtain ⟨b, off, rfl, hc⟩ := h.2 hx
  refine ⟨b, off + lo * sz, ?_, fun j u hu => ?_⟩
  · unfold cutAt
    rw [if_neg (by omega)]
    simp only [Option.map_some]
    congr 1
    unfold Addr.add
    split
    · rename_i e; rw [e]; rfl
    · rfl
  · rw [List.getElem?_take] at hu
    split at hu
    · rw [List.getElem?_drop] at hu
      have := hc _ u hu
      rwa [← Nat.add_assoc] at this
    · cases hu
theorem run_sizeOf {P : Program} {e : TypeId} {sz : Nat} (hsz : P.cellsOf e = sz) (hi0 : (P.info? e).isSome = true) (W : World) : (sizeOf e).run P W = .ok sz W := by
  obtain ⟨i, hi⟩ := Option.isSome_iff_exists.1 hi0
  have : i.size = sz := by simpa [Program.cellsOf, hi] using hsz
  simp [sizeOf, typeInfo, hi, this]
section
variable {P : Program} {t e : TypeId} {sz : Nat} (ht : P.underlying t = some (.slice e)) (hsz : P.cellsOf e = sz) (hi0 : (P.info? e).isSome = true)
include ht hsz hi0
/-- x[lo:hi]. -/
theorem run_cut (A : Option Addr) (n c : Nat) (lo hi : Int) (h0 : 0 ≤ lo) (h1 : lo ≤ hi) (h2 : hi ≤ c) (W : World) :
    (Instr.sliceAt t (.slice A n c) (some (.int .i64 lo)) (some (.int .i64 hi)) none).run P W = .ok (.slice (cutAt A c lo.toNat sz) (hi.toNat - lo.toNat) (c - lo.toNat)) W := by
  have he : P.elem t = e := by simp [Program.elem, ht]
  have ht' : P.underlying t = some (.slice (P.elem t)) := by rw [he]; exact ht
  rw [run_sliceAt_slice W t _ _ _ _ ht', run_slice_lh W t A n c ht' _ _ lo hi h0 h1 h2, he, run_sizeOf hsz hi0]
  rfl
/-- x[lo:]. -/
theorem run_cut_from (A : Option Addr) (n c : Nat) (lo : Int) (h0 : 0 ≤ lo) (h1 : lo ≤ n) (W : World) :
    (Instr.sliceAt t (.slice A n c) (some (.int .i64 lo)) none none).run P W = .ok (.slice (cutAt A c lo.toNat sz) (n - lo.toNat) (c - lo.toNat)) W := by
  have he : P.elem t = e := by simp [Program.elem, ht]
  have ht' : P.underlying t = some (.slice (P.elem t)) := by rw [he]; exact ht
  rw [run_sliceAt_slice W t _ _ _ _ ht', run_slice_l W t A n c ht' _ lo h0 h1, he, run_sizeOf hsz hi0]
  rfl
/-- x[:hi]. -/
theorem run_cut_to (A : Option Addr) (n c : Nat) (hi : Int) (h0 : 0 ≤ hi) (h2 : hi ≤ c) (W : World) :
    (Instr.sliceAt t (.slice A n c) none (some (.int .i64 hi)) none).run P W = .ok (.slice (cutAt A c 0 sz) hi.toNat c) W := by
  have he : P.elem t = e := by simp [Program.elem, ht]
  have ht' : P.underlying t = some (.slice (P.elem t)) := by rw [he]; exact ht
  rw [run_sliceAt_slice W t _ _ _ _ ht', run_slice_h W t A n c ht' _ hi h0 h2, he, run_sizeOf hsz hi0]
  rfl
end
theorem cel5 : Try.prog.cellsOf 5 = 1 := by kernel_rfl
theorem ino5 : (Try.prog.info? 5).isSome = true := by kernel_rfl
theorem str_nums (l : List UInt8) : strOfNums (l.map fun b => (b.toNat : Int)) = ⟨l.toArray⟩ := by
  unfold strOfNums
  have : (l.map fun b => (b.toNat : Int)).map (fun n => UInt8.ofNat n.toNat) = l := by
    rw [List.map_map]
    conv => rhs; rw [← List.map_id l]
    apply List.map_congr_left
    intro b _
    simp
  rw [this]
/-- string(b). -/
theorem run_tostr {w : World} (A : Option Addr) (l : List UInt8) (n c : Nat) (hR : Rd w A (bv l)) (hn : n = l.length) : (convert 28 9 (.slice A n c)).run Try.prog w = .ok (str l) w := by
  subst hn
  cases l with
  | nil =>
    cases A with
    | none => exact run_convert_bytes_nil w 28 5 Try.underlying28 Try.underlying5 0 c 9 Try.underlying9
    | some a =>
      show (convert 28 9 (.slice (some a) 0 c)).run Try.prog w = _
      rw [run_convert_bytes_string w 28 9 5 _ 0 c Try.underlying28 Try.underlying5 Try.underlying9]
      simp [Conv.bytesToString, loadCells, loadCellsFrom, str]
      rfl
  | cons h t =>
    obtain ⟨b, off, rfl, hc⟩ := hR.2 (by simp [bv])
    have := run_convert_bytes_arg (P := Try.prog) w 28 5 Try.underlying28 Try.underlying5 b off (h :: t).length c ((h :: t).map fun b => (b.toNat : Int)) (by simp) (fun i hi => by
      have h1 := hc i (.int .u8 (((h :: t).map fun b => (b.toNat : Int)).getD i 0)) (by
        simp only [bv, List.getElem?_map, List.getD_eq_getElem?_getD]
        rw [List.getElem?_eq_getElem hi]
        simp)
      exact h1) 9 Try.underlying9
    rw [this, str_nums]
    rfl
section
variable {P : Program}
/-- append(v, s...), s a string. -/
theorem wp_apps {ops : Array Oper} {rest : List Oper} {o : Oper} {a : Act} {Q : Exit → Act → World → Prop} {w w0 : World} (hgd : Region.wanted o (yielded ops a.tmps) = true) (s x : Operand) (t u : TypeId)
    (ho : o.op = .call { callee := .builtin .append, args := #[s, x], argTypes := #[t, u] })
    (base : Nat) (e : TypeId) (ht : P.underlying t = some (.slice e)) (hu : P.underlying u = some .string)
    (hinfo : (P.info? e).map (fun i => (i.zero, i.size, i.bytes)) = some (some (.int .u8 0), 1, 1))
    (v : Value) (n : Nat) (xs : List Value) (hs : a.eval s = v) (hown : w.ownsRow base e 1 v n xs)
    (l : List UInt8) (hx : a.eval x = str l) (hm : n + l.length ≤ 140737488355328) (hbase : base ≤ w.heap.size) (hB : Below base w0 w)
    (h : ∀ v' w', w'.ownsRow base e 1 v' (n + l.length) (xs ++ bv l) → Below base w0 w' → wpList P ops Q rest (a.put o.dst v') w') : wpList P ops Q (o :: rest) a w := by
  obtain ⟨i, hi, hz, hs1, hb⟩ := info_parts hinfo
  have hsz := str_size l
  obtain ⟨v', w', hr, h2, h3, _⟩ := Lib.run_append_own_string (P := P) w base t u o.type e i ht hu hi hz hs1 hb v n xs hown ⟨l.toArray⟩ (by rw [hsz]; unfold maxLen; omega) (by rw [hsz]; exact hm) hbase
  rw [strCells_bv, hsz] at h2
  have hx' : a.eval x = .string ⟨l.toArray⟩ := hx
  refine wpList_wanted hgd fun K hK => ?_
  unfold Oper.wp execOp
  simp only [ho, resolve, invoke, builtin, Sem.run_bind, Sem.run_pure, Result.andThen_ok, List.map_toArray, List.map_cons, List.map_nil, hs, hx', hr]
  exact hK _ _ (h v' w' h2 (hB.grown h3 hbase (own_ge hown)))
end
end Go.Proofs.Ytopppkafbbfobaa.W
