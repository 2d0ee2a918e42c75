/- The statements' arguments, opened: bytes, integers, texts, digests; with what the form says of their size. -/
import Derived.Test.YtopppkafbbfobaaOp
import Derived.Test.YtopppkafbbfobaaC28
import Derived.SizedLaws
import Derived.SliceStrings
namespace Go.Proofs.Ytopppkafbbfobaa.W
open Go.ChangeShapes Go.WideShapes Go.ChangeAt Go.RowKit
open Go.ChangeMaps (open_string shut_string)

section
variable {H : Type} {enc : TypeId × Value → H} {w : World} {base : Nat} {held : Bool} {a : Option Addr} {len cap : Nat} {d : DataW H} {p : List MemPlace}

/-- The shape of a slice's datum. -/
def Dat (d : DataW H) (len : Nat) (el : List (DataW H)) : Prop := el.length = len ∧ ((d = .nil ∧ el = []) ∨ ∃ sp, d = .slice el sp)

theorem op_bytes (h : DataW.Trod enc Try.prog w base (fun _ => true) held 28 (.slice a len cap) d p) : ∃ (l : List UInt8) (el : List (DataW H)), len = l.length ∧ len ≤ cap ∧ Rd w a (bv l) ∧ Dat d len el := by
  obtain ⟨fuel, hf⟩ := h
  rcases open_ints Try.underlying28 Try.underlying5 (by kernel_rfl) hf with ⟨hcs, hx⟩ | ⟨x, l, c, zs, hcs, _, hl, hm, hz, hx, hcell, hwz⟩
  · simp only [Value.cells, List.cons.injEq, Value.slice.injEq, and_true] at hcs
    obtain ⟨rfl, rfl, rfl⟩ := hcs
    simp only [Prod.mk.injEq] at hx
    exact ⟨[], [], rfl, Nat.le_refl _, Rd.nil _ _, rfl, .inl ⟨hx.1, rfl⟩⟩
  · simp only [Value.cells, List.cons.injEq, Value.slice.injEq, and_true] at hcs
    obtain ⟨rfl, rfl, rfl⟩ := hcs
    simp only [Prod.mk.injEq] at hx
    obtain ⟨l, h1, h2, h3⟩ := row_bytes (.inr ⟨_, rfl, hl, hm, by simpa using hz, hcell, hwz⟩)
    exact ⟨l, _, h1, h2, h3, by simp only [lits, List.length_map, List.length_take]; simp at hz; omega, .inr ⟨_, hx.1⟩⟩
theorem op_ints (h : DataW.Trod enc Try.prog w base (fun _ => true) held 22 (.slice a len cap) d p) : ∃ (l : List Int) (el : List (DataW H)), len = l.length ∧ len ≤ cap ∧ Rd w a (iv l) ∧ (∀ x ∈ l, I64 x) ∧ Dat d len el := by
  obtain ⟨fuel, hf⟩ := h
  rcases open_ints Try.underlying22 Try.underlying3 (by kernel_rfl) hf with ⟨hcs, hx⟩ | ⟨x, l, c, zs, hcs, _, hl, hm, hz, hx, hcell, hwz⟩
  · simp only [Value.cells, List.cons.injEq, Value.slice.injEq, and_true] at hcs
    obtain ⟨rfl, rfl, rfl⟩ := hcs
    simp only [Prod.mk.injEq] at hx
    exact ⟨[], [], rfl, Nat.le_refl _, Rd.nil _ _, fun _ h => (by cases h), rfl, .inl ⟨hx.1, rfl⟩⟩
  · simp only [Value.cells, List.cons.injEq, Value.slice.injEq, and_true] at hcs
    obtain ⟨rfl, rfl, rfl⟩ := hcs
    simp only [Prod.mk.injEq] at hx
    obtain ⟨l, h1, h2, h3, h4⟩ := row_ints (.inr ⟨_, rfl, hl, hm, by simpa using hz, hcell, hwz⟩)
    exact ⟨l, _, h1, h2, h3, h4, by simp only [lits, List.length_map, List.length_take]; simp at hz; omega, .inr ⟨_, hx.1⟩⟩
theorem op_strs (h : DataW.Trod enc Try.prog w base (fun _ => true) held 23 (.slice a len cap) d p) : ∃ (l : List (List UInt8)), len = l.length ∧ len ≤ cap ∧ Rd w a (tv l) ∧ Dat d len (l.map fun x => .lit (.string x)) := by
  obtain ⟨fuel, hf⟩ := h
  rcases open_strings Try.underlying23 Try.underlying9 (by kernel_rfl) hf with ⟨hcs, hx⟩ | ⟨x, l, c, ss, hcs, _, hl, hm, hz, hx, hcell, hwz⟩
  · simp only [Value.cells, List.cons.injEq, Value.slice.injEq, and_true] at hcs
    obtain ⟨rfl, rfl, rfl⟩ := hcs
    simp only [Prod.mk.injEq] at hx
    exact ⟨[], rfl, Nat.le_refl _, Rd.nil _ _, rfl, .inl ⟨hx.1, rfl⟩⟩
  · simp only [Value.cells, List.cons.injEq, Value.slice.injEq, and_true] at hcs
    obtain ⟨rfl, rfl, rfl⟩ := hcs
    simp only [Prod.mk.injEq] at hx
    simp only [if_true] at hz
    have hlt : (ss.take len).length = len := by rw [List.length_take]; omega
    refine ⟨(ss.take len).map fun s => s.data.toList, by rw [List.length_map, hlt], hl, ⟨?_, fun h0 => ?_⟩, by simp; omega, .inr ⟨strs (ss.drop len), ?_⟩⟩
    · rw [tv_length, List.length_map, hlt]; unfold maxLen at hm; omega
    · rw [tv_length, List.length_map, hlt] at h0
      obtain ⟨b, off, spot⟩ := x
      have hs : spot = none := by simpa [Addr.add] using World.cell?_spot (hcell 0 (by omega))
      subst hs
      refine ⟨b, off, rfl, fun j u hu => ?_⟩
      have hj : j < len := by
        have := (List.getElem?_eq_some_iff.1 hu).1
        rwa [tv_length, List.length_map, hlt] at this
      have h1 := hcell j (by omega)
      rw [show (⟨b, off, none⟩ : Addr).add j = ⟨b, off + j, none⟩ from by unfold Addr.add; split <;> simp_all] at h1
      rw [h1, ← hu]
      have hjz : j < ss.length := by omega
      simp [tv, str, hj, List.getElem?_eq_getElem hjz, List.getD_eq_getElem?_getD]
    · rw [hx.1]
      simp [strs]
      rfl
/-- The byte in a cell. -/
def cb : Option Value → UInt8
  | some (.int .u8 n) => UInt8.ofNat n.toNat
  | _ => 0
theorem dat_slice {t e : TypeId} (ht : Try.prog.underlying t = some (.slice e)) (h : DataW.Trod enc Try.prog w base (fun _ => true) held t (.slice a len cap) d p) : ∃ el, Dat d len el := by
  obtain ⟨fuel, hf⟩ := h
  rcases DataW.trod_slice ht hf with ⟨hcs, hx⟩ | ⟨x, l, c, elems, rest, n, _, hcs, hx, _, _, _, hlen, _⟩
  · simp only [Value.cells, List.cons.injEq, Value.slice.injEq, and_true] at hcs
    obtain ⟨rfl, rfl, rfl⟩ := hcs
    simp only [Prod.mk.injEq] at hx
    exact ⟨[], rfl, .inl ⟨hx.1, rfl⟩⟩
  · simp only [Value.cells, List.cons.injEq, Value.slice.injEq, and_true] at hcs
    obtain ⟨rfl, rfl, rfl⟩ := hcs
    simp only [Prod.mk.injEq] at hx
    exact ⟨_, by rw [List.length_map]; exact hlen, .inr ⟨_, hx.1⟩⟩
theorem cel90 : Try.prog.cellsOf 90 = 16 := by kernel_rfl
/-- One digest, where it lies. -/
theorem one_dig {n i : Nat} {x : Addr} {r : DataW H × List MemPlace} (h : (w.cells? base (x.add (i * Try.prog.cellsOf 90)) (Try.prog.cellsOf 90)).bind (DataW.trod enc Try.prog w base (fun _ => true) held n 90) = some r) :
    ∀ j, j < 16 → w.cell? ((x.add (i * 16)).add j) = some (.int .u8 ((cb (w.cell? ((x.add (i * 16)).add j))).toNat : Int)) := by
  intro j hj
  rw [cel90] at h
  obtain ⟨cs, hc, hr⟩ := Option.bind_eq_some_iff.1 h
  obtain ⟨_, hl, hcell⟩ := World.cells?_some hc
  obtain ⟨xs, m, _, _, _, hxl, hx⟩ := DataW.trod_array Try.underlying90 hr
  have h1 := hx j hj
  rw [cel5, Nat.mul_one, List.getElem?_eq_getElem (by omega)] at h1
  obtain ⟨k, hk, _, hwf⟩ := DataW.trod_int Try.underlying5 h1
  have hk2 : cs[j]? = some (.int .u8 k) := by
    have := congrArg (fun l => l[0]?) hk
    simpa [List.getElem?_take, List.getElem?_drop] using this
  have hw := wf_u8 hwf
  rw [hcell j hj, hk2]
  simp only [cb, ofNat_toNat]
  congr 2
  omega
theorem op_digs (h : DataW.Trod enc Try.prog w base (fun _ => true) held 24 (.slice a len cap) d p) (hsz : len ≤ 576460752303423487) : ∃ (l : List (List UInt8)), len = l.length ∧ len ≤ cap ∧ D16 l ∧ Rd w a (dv l) := by
  obtain ⟨fuel, hf⟩ := h
  rcases DataW.trod_slice Try.underlying24 hf with ⟨hcs, hx⟩ | ⟨x, l, c, elems, rest, n, _, hcs, hx, _, hl, hm, hlen, hel, _⟩
  · simp only [Value.cells, List.cons.injEq, Value.slice.injEq, and_true] at hcs
    obtain ⟨rfl, rfl, rfl⟩ := hcs
    exact ⟨[], rfl, Nat.le_refl _, fun _ h => (by cases h), Rd.nil _ _⟩
  · simp only [Value.cells, List.cons.injEq, Value.slice.injEq, and_true] at hcs
    obtain ⟨rfl, rfl, rfl⟩ := hcs
    have hone : ∀ i, i < len → ∀ j, j < 16 → w.cell? ((x.add (i * 16)).add j) = some (.int .u8 ((cb (w.cell? ((x.add (i * 16)).add j))).toNat : Int)) := fun i hi =>
      one_dig ((hel i hi).trans (List.getElem?_eq_getElem (by omega)))
    let L : List (List UInt8) := (List.range len).map fun i => (List.range 16).map fun j => cb (w.cell? ((x.add (i * 16)).add j))
    have hLl : L.length = len := by simp [L]
    have h16 : D16 L := by
      intro d hd
      obtain ⟨i, _, rfl⟩ := List.mem_map.1 hd
      simp
    refine ⟨L, hLl.symm, hl, h16, ⟨by rw [dv_length L h16, hLl]; omega, fun h0 => ?_⟩⟩
    rw [dv_length L h16, hLl] at h0
    obtain ⟨b, off, spot⟩ := x
    have hs : spot = none := by
      have := hone 0 (by omega) 0 (by omega)
      simpa [Addr.add] using World.cell?_spot this
    subst hs
    have hadd : ∀ (o i j : Nat), ((⟨b, o, none⟩ : Addr).add i).add j = ⟨b, o + (i + j), none⟩ := fun o i j => by
      have h1 : (⟨b, o, none⟩ : Addr).add i = ⟨b, o + i, none⟩ := by unfold Addr.add; split <;> simp_all
      rw [h1]
      unfold Addr.add
      split <;> simp_all
      omega
    refine ⟨b, off, rfl, fun q u hu => ?_⟩
    have hq : q < len * 16 := by
      have := (List.getElem?_eq_some_iff.1 hu).1
      rwa [dv_length L h16, hLl] at this
    have hk : q / 16 < len := by omega
    have hj : q % 16 < 16 := Nat.mod_lt _ (by omega)
    have h2 := hone (q / 16) hk (q % 16) hj
    have hLg : L.getD (q / 16) [] = (List.range 16).map fun j => cb (w.cell? (((⟨b, off, none⟩ : Addr).add (q / 16 * 16)).add j)) := by
      simp [L, List.getD_eq_getElem?_getD, hk]
    have h3 := dv_at L h16 (q / 16) (by rw [hLl]; exact hk) (q % 16) _ (bv_getElem? (L.getD (q / 16) []) (q % 16) (by rw [hLg]; simpa using hj))
    rw [show q / 16 * 16 + q % 16 = q from by omega, hu] at h3
    rw [Option.some.inj h3, hLg]
    rw [hadd] at h2
    rw [show q / 16 * 16 + q % 16 = q from by omega] at h2
    rw [h2]
    congr 2
    simp only [List.getD_eq_getElem?_getD, List.getElem?_map, List.getElem?_range hj, Option.map_some, Option.getD_some, hadd]
    rw [show q / 16 * 16 + q % 16 = q from by omega]
end
theorem weights_all {H : Type} {P : Program} {e : TypeId} : ∀ {l : List (DataW H)} {d : DataW H}, d ∈ l → ∀ n ∈ d.weights P e, n ∈ DataW.weightsAll P e l
  | d0 :: l, d, hd, n, hn => by
    rw [DataW.weightsAll, List.mem_append]
    rcases List.mem_cons.1 hd with rfl | hd
    · exact .inl hn
    · exact .inr (weights_all hd n hn)
section
variable {H : Type} {ts : List TypeId} {ds : List (DataW H)} {j len : Nat} {t e : TypeId} {d : DataW H} {el : List (DataW H)}
theorem sized_dat (h : (DataW.weightsEach Try.prog ts ds).all (· ≤ reachBytes) = true) (ht : ts[j]? = some t) (hd : ds[j]? = some d) (hu : Try.prog.underlying t = some (.slice e)) (hD : Dat d len el) : len * Try.prog.bytesOf e ≤ reachBytes := by
  obtain ⟨h1, ⟨rfl, rfl⟩ | ⟨sp, rfl⟩⟩ := hD
  · rw [← h1, List.length_nil, Nat.zero_mul]; exact Nat.zero_le _
  · have := sized_slice h ht hd hu
    rw [h1, Nat.add_mul] at this
    omega
theorem sized_strs {l : List (List UInt8)} (h : (DataW.weightsEach Try.prog ts ds).all (· ≤ reachBytes) = true) (ht : ts[j]? = some 23) (hd : ds[j]? = some d) (hD : Dat d len (l.map fun x => .lit (.string x))) : ∀ x ∈ l, x.length ≤ reachBytes := by
  intro x hx
  obtain ⟨_, ⟨rfl, h2⟩ | ⟨sp, rfl⟩⟩ := hD
  · rw [List.map_eq_nil_iff] at h2
    rw [h2] at hx
    cases hx
  · have := List.all_eq_true.1 h _ (DataW.weights_mem_each ht hd x.length (by
      rw [DataW.weights, Try.underlying23]
      simp only [List.mem_cons, List.mem_append]
      exact .inr (.inl (weights_all (List.mem_map.2 ⟨x, hx, rfl⟩) _ (by simp [DataW.weights])))))
    simpa using this
theorem reach_eq : reachBytes = 140737488351232 := by decide
theorem by5 : Try.prog.bytesOf 5 = 1 := by kernel_rfl
theorem by3 : Try.prog.bytesOf 3 = 8 := by kernel_rfl
theorem by9 : Try.prog.bytesOf 9 = 16 := by kernel_rfl
theorem by90 : Try.prog.bytesOf 90 = 16 := by kernel_rfl
theorem bulk_mem : ∀ {ds : List (DataW H)} {d : DataW H}, d ∈ ds → Rows.uptoBulk d ≤ Rows.uptoBulkAll ds
  | d0 :: l, d, hd => by
    rw [Rows.uptoBulkAll]
    rcases List.mem_cons.1 hd with rfl | hd
    · omega
    · have := bulk_mem hd; omega
theorem bulk_pos (d : DataW H) : 1 ≤ Rows.uptoBulk d := by
  unfold Rows.uptoBulk
  split <;> omega
theorem bulk_len : ∀ (l : List (DataW H)), l.length ≤ Rows.uptoBulkAll l
  | [] => Nat.zero_le _
  | d :: l => by
    have h1 := bulk_pos d
    have h2 := bulk_len l
    rw [Rows.uptoBulkAll, List.length_cons]
    omega
theorem bulk_dat (hD : Dat d len el) : Rows.uptoBulkAll el ≤ Rows.uptoBulk d ∧ len ≤ Rows.uptoBulk d := by
  have hl := bulk_len el
  obtain ⟨h1, ⟨rfl, rfl⟩ | ⟨sp, rfl⟩⟩ := hD
  · subst h1; simp [Rows.uptoBulkAll]
  · subst h1
    rw [Rows.uptoBulk]
    omega
theorem bulk_strs : ∀ (l : List (List UInt8)), Rows.uptoBulkAll (H := H) (l.map fun x => .lit (.string x)) = (l.map (·.length)).sum + l.length
  | [] => rfl
  | x :: l => by
    rw [List.map_cons, Rows.uptoBulkAll, bulk_strs l, Rows.uptoBulk, List.map_cons, List.sum_cons, List.length_cons]
    omega
end
end Go.Proofs.Ytopppkafbbfobaa.W
