/-
  A row of bytes of the call's own whose block may bear a frozen mark at its end (what a conversion from a string leaves): append of a string, of one byte.
-/
import Derived.Test.YtgmppfhokfifgaaGreatDoorApc
import Derived.Lib.FrozenHead
import Derived.Lib.ConvBytes
namespace Go.Proofs.YtgmppfhokfifgaaGreatDoor
set_option maxRecDepth 10000
open Go.RowKit

/-- The row: cells us; a frozen mark, if there is one, lies at or behind the end of the room. -/
def OwZ (e : TypeId) (w : World) (lo hi : Nat) (v : Value) (n : Nat) (us : List Value) : Prop :=
  us.length = n ∧ ∃ g cap cur fz, v = .slice (some ⟨g, 0, none⟩) n cap ∧ lo ≤ g ∧ g < hi ∧ w.heap[g]? = some (.cells cur e fz) ∧ (fz = (0, 0) ∨ cap ≤ fz.1) ∧ n ≤ cap ∧ cap ≤ maxLen ∧ cur.size = cap ∧ cur.toList.take n = us
section
variable {e : TypeId} {w w' : World} {lo hi : Nat} {v : Value} {n : Nat} {us : List Value}
theorem OwZ.keep (h : OwZ e w lo hi v n us) (hk : ∀ k, lo ≤ k → k < hi → w'.heap[k]? = w.heap[k]?) : OwZ e w' lo hi v n us := by
  obtain ⟨h0, g, cap, cur, fz, rfl, h1, h2, h3, h4⟩ := h
  exact ⟨h0, g, cap, cur, fz, rfl, h1, h2, by rw [hk g h1 h2]; exact h3, h4⟩
theorem OwZ.below {B : Nat} (h : OwZ e w lo hi v n us) (hb : Below B w w') (hB : hi ≤ B) : OwZ e w' lo hi v n us := h.keep fun k _ hk => hb.block k (by omega)
theorem OwZ.mono {lo' hi' : Nat} (h : OwZ e w lo hi v n us) (h1 : lo' ≤ lo) (h2 : hi ≤ hi') : OwZ e w lo' hi' v n us := by
  obtain ⟨h0, g, cap, cur, fz, rfl, a, b, h3⟩ := h
  exact ⟨h0, g, cap, cur, fz, rfl, by omega, by omega, h3⟩
theorem OwZ.cells (h : OwZ e w lo hi v n us) : ∃ g cap, v = .slice (some ⟨g, 0, none⟩) n cap ∧ lo ≤ g ∧ g < hi ∧ ∀ (j : Nat) (u : Value), us[j]? = some u → w.cell? ((⟨g, 0, none⟩ : Addr).add j) = some u := by
  obtain ⟨h0, g, cap, cur, fz, rfl, a, b, h3, -, -, -, -, ht⟩ := h
  refine ⟨g, cap, rfl, a, b, fun j u hu => ?_⟩
  have hadd : (⟨g, 0, none⟩ : Addr).add j = ⟨g, j, none⟩ := by unfold Addr.add; split <;> simp_all
  rw [hadd, cell_of_row w g j cur e fz h3]
  rw [← ht, List.getElem?_take] at hu
  split at hu
  · simpa using hu
  · cases hu
theorem OwZ.lt (h : OwZ e w lo hi v n us) : ∀ g, v.ownBlock = some g → lo ≤ g ∧ g < hi := by
  obtain ⟨h0, g, cap, cur, fz, rfl, a, b, -⟩ := h
  intro k hk
  simp [Value.ownBlock] at hk
  omega
theorem OwZ.grown (h : OwZ e w lo hi v n us) (hg : w.grownBy w' v.ownBlock) {B : Nat} (hB : B ≤ lo) (hs : B ≤ w.heap.size) : Below B w w' :=
  ⟨hg.os, hg.tape, hg.output, hg.size, fun k hk => hg.block k (by omega) fun q => by have := (h.lt k q.symm).1; omega⟩
end
/-- Cells are stored where nothing is frozen. -/
theorem run_storeCells_atZ (P : Program) (g o : Nat) (t : TypeId) (fz : Nat × Nat) : ∀ (vs : List Value) (i : Nat) (cur : Array Value) (w : World), w.heap[g]? = some (.cells cur t fz) → (fz = (0, 0) ∨ cur.size ≤ fz.1) → o + i + vs.length ≤ cur.size → (∀ v ∈ vs, v.oneCell' = true) →
    (storeCells ⟨g, o, none⟩ vs i).run P w = .ok () (w.setRow g (cur.toList.take (o + i) ++ vs ++ cur.toList.drop (o + i + vs.length)).toArray)
  | [], i, cur, w, hg, _, _, _ => by
    simp only [storeCells, List.append_nil, List.length_nil, Nat.add_zero, List.take_append_drop, Array.toArray_toList]
    rw [setRow_self w g cur t fz hg]
    rfl
  | v :: rest, i, cur, w, hg, hfz, hl, h1 => by
    have hi : o + i < cur.size := by simp at hl; omega
    have hadd : (⟨g, o, none⟩ : Addr).add i = ⟨g, o + i, none⟩ := by unfold Addr.add; split <;> simp_all
    have hcell : w.cell? ⟨g, o + i, none⟩ = some cur[o + i] := by simp [World.cell?, hg, hi]
    have hfro : w.frozen? ⟨g, o + i, none⟩ = false := by
      obtain ⟨lo, hi'⟩ := fz
      simp only [World.frozen?, hg, Bool.and_eq_false_iff, decide_eq_false_iff_not]
      rcases hfz with hfz | hfz
      · injection hfz with a b
        right
        omega
      · left
        simp only at hfz
        omega
    have hst : (store ((⟨g, o, none⟩ : Addr).add i) v).run P w = .ok () (w.setRow g (cur.setIfInBounds (o + i) v)) := by
      rw [hadd, run_store P w _ v _ (h1 v (by simp)), hcell]
      simp [hfro, setCell_eq_setRow w g (o + i) cur t fz v hg]
    have ih := run_storeCells_atZ P g o t fz rest (i + 1) (cur.setIfInBounds (o + i) v) (w.setRow g (cur.setIfInBounds (o + i) v)) (setRow_heap w g cur _ t _ hg) (by simpa using hfz) (by simp at hl ⊢; omega) (fun x hx => h1 x (by simp [hx]))
    simp only [storeCells, Sem.run_bind, hst, Result.andThen_ok, ih, setRow_setRow]
    congr 3
    have e := list_seg_step cur.toList (o + i) v rest (by simp at hl ⊢; omega)
    simpa [Array.toList_setIfInBounds, Nat.add_assoc] using e
/-- append of a string's bytes. -/
theorem run_append_str_z {P : Program} {w : World} {lo hi : Nat} (t u ty e : TypeId) (i : TypeInfo) (ht : P.underlying t = some (.slice e)) (hu : P.underlying u = some .string) (hinf : P.info? e = some i) (hz : i.zero = some (.int .u8 0)) (hsize : i.size = 1) (hby : i.bytes = 1)
    {v : Value} {n : Nat} {us : List Value} (h : OwZ e w lo hi v n us) (s : ByteArray) (hlen : n + s.size ≤ 1000000000) (hlo : lo ≤ w.heap.size) (hhi : hi ≤ w.heap.size) :
    ∃ v' w', (Builtin.append_ #[t, u] ty #[v, .string s]).run P w = .ok v' w' ∧ OwZ e w' lo w'.heap.size v' (n + s.size) (us ++ Lib.strCells s) ∧ w.grownBy w' v.ownBlock := by
  have hcl := h.cells
  obtain ⟨h0, g, cap, cur, fz, rfl, hbg, hgh, hg, hfz, hnc, hcm, hcs, htake⟩ := h
  have hxl : us.length = n := h0
  have hl : (us ++ Lib.strCells s).length = n + s.size := by rw [List.length_append, hxl, Lib.strCells_length]
  by_cases hroom : n + s.size ≤ cap
  · have hf := Lib.run_firstCells_string (P := P) w 1 s
    have hst := run_storeCells_atZ P g n e fz (Lib.strCells s) 0 cur w hg (by rw [hcs]; exact hfz) (by rw [Lib.strCells_length]; omega) (Lib.strCells_oneCell s)
    simp only [Nat.add_zero, Lib.strCells_length] at hst
    have hr : (Builtin.append_ #[t, u] ty #[.slice (some ⟨g, 0, none⟩) n cap, .string s]).run P w =
      .ok (.slice (some ⟨g, 0, none⟩) (n + s.size) cap) (w.setRow g (cur.toList.take n ++ Lib.strCells s ++ cur.toList.drop (n + s.size)).toArray) := by
      have hf' : (Builtin.firstCells 1 s.size (.string s)).run P w = .ok (Lib.strCells s).toArray w := hf
      simp [Builtin.append_, run_underlying ht, run_underlying hu, sizeOf, typeInfo, hinf, hsize, Builtin.lenOf, hroom, hf', Addr.add_lit, hst]
    refine ⟨_, _, hr, ⟨hl, g, cap, _, fz, rfl, hbg, by rw [show (w.setRow g _).heap.size = w.heap.size by simp]; omega, setRow_heap w g cur _ e _ hg, hfz, hroom, hcm, ?_, ?_⟩, ⟨rfl, rfl, rfl, by simp, fun k _ hk => setRow_other w g k _ (fun q => hk (by simp [Value.ownBlock, q]))⟩⟩
    · simp only [List.size_toArray, List.length_append, List.length_take, List.length_drop, Array.length_toList, Lib.strCells_length]
      omega
    · rw [htake, ← hl]
      exact List.take_left
  · have hr := Lib.run_append_grow_string (P := P) w t u ty e i (.int .u8 0) ht hu hinf hz ⟨g, 0, none⟩ n cap us (by rw [hsize]; simpa using hxl) (by
        obtain ⟨g2, cap2, he, -, -, hc⟩ := hcl
        injection he with he _ _; injection he with he; injection he with he
        subst he
        exact hc) s (by omega) (by omega) (by rw [hby]; exact growslice_fits (by omega) (by omega))
    have hge := grownCap_ge w (n + s.size) cap e
    have hcm2 : grownCap w (n + s.size) cap e ≤ maxLen := grownCap_le_maxLen w (n + s.size) cap e (by simp only [maxLen]; omega)
    refine ⟨_, _, hr, ⟨hl, w.heap.size, _, _, (0, 0), rfl, hlo, by simp, heap_alloc_new w.drew _, .inl rfl, hge, hcm2, ?_, ?_⟩, ⟨rfl, rfl, rfl, by simp, fun k hk _ => _root_.Go.heap_alloc_old w.drew _ (r := k) hk⟩⟩
    · have hz1 : (Value.int IntKind.u8 0).cells.size = 1 := rfl
      simp only [Array.size_append, List.size_toArray, size_zeroCells, hz1, hxl, Lib.strCells_length]
      omega
    · simp only [Array.toList_append, List.append_assoc]
      rw [← List.append_assoc, ← hl]
      exact List.take_left
/-- append of one byte that lies in a cell. -/
theorem run_append_one_z {P : Program} {w : World} {lo hi : Nat} (t ty e : TypeId) (i : TypeInfo) (ht : P.underlying t = some (.slice e)) (hinf : P.info? e = some i) (hz : i.zero = some (.int .u8 0)) (hsize : i.size = 1) (hby : i.bytes = 1)
    {v : Value} {n : Nat} {us : List Value} (h : OwZ e w lo hi v n us) (a : Addr) (c : Nat) (x : Value) (hx : w.cell? (a.add 0) = some x) (hx1 : x.oneCell' = true) (hlen : n + 1 ≤ 1000000000) (hlo : lo ≤ w.heap.size) (hhi : hi ≤ w.heap.size) :
    ∃ v' w', (Builtin.append_ #[t, t] ty #[v, .slice (some a) 1 c]).run P w = .ok v' w' ∧ OwZ e w' lo w'.heap.size v' (n + 1) (us ++ [x]) ∧ w.grownBy w' v.ownBlock := by
  have hcl := h.cells
  obtain ⟨h0, g, cap, cur, fz, rfl, hbg, hgh, hg, hfz, hnc, hcm, hcs, htake⟩ := h
  have hxl : us.length = n := h0
  have hl : (us ++ [x]).length = n + 1 := by rw [List.length_append, hxl]; rfl
  have hnews : ∀ (j : Nat) (u : Value), [x][j]? = some u → w.cell? (a.add j) = some u := fun j u hu => by
    match j, hu with
    | 0, hu => simp at hu; subst hu; exact hx
    | j + 1, hu => simp at hu
  have h1 : ∀ u ∈ [x], u.oneCell' = true := fun u hu => by simp at hu; subst hu; exact hx1
  by_cases hroom : n + 1 ≤ cap
  · have hf := run_firstCells_some (P := P) w i.size 1 a 1 c [x] (by rw [hsize]; rfl) hnews
    have hst := run_storeCells_atZ P g n e fz [x] 0 cur w hg (by rw [hcs]; exact hfz) (by simp; omega) h1
    simp only [Nat.add_zero] at hst
    have hr : (Builtin.append_ #[t, t] ty #[.slice (some ⟨g, 0, none⟩) n cap, .slice (some a) 1 c]).run P w =
      .ok (.slice (some ⟨g, 0, none⟩) (n + 1) cap) (w.setRow g (cur.toList.take n ++ [x] ++ cur.toList.drop (n + [x].length)).toArray) := by
      rw [hsize] at hf
      simp [Builtin.append_, run_underlying ht, sizeOf, typeInfo, hinf, hsize, Builtin.lenOf, hroom, hf, Addr.add_lit, hst]
    refine ⟨_, _, hr, ⟨hl, g, cap, _, fz, rfl, hbg, by rw [show (w.setRow g _).heap.size = w.heap.size by simp]; omega, setRow_heap w g cur _ e _ hg, hfz, hroom, hcm, ?_, ?_⟩, ⟨rfl, rfl, rfl, by simp, fun k _ hk => setRow_other w g k _ (fun q => hk (by simp [Value.ownBlock, q]))⟩⟩
    · simp only [List.size_toArray, List.length_append, List.length_take, List.length_drop, Array.length_toList, List.length_cons, List.length_nil]
      omega
    · rw [htake, ← hl]
      exact List.take_left
  · have hr := run_append_grow (P := P) w t ty e i (.int .u8 0) ht hinf hz ⟨g, 0, none⟩ n cap us (by rw [hsize]; simpa using hxl) (by
        obtain ⟨g2, cap2, he, -, -, hc⟩ := hcl
        injection he with he _ _; injection he with he; injection he with he
        subst he
        exact hc) a 1 c [x] (by rw [hsize]; rfl) hnews (by omega) (by omega) (by rw [hby]; exact growslice_fits (by omega) (by omega))
    have hge := grownCap_ge w (n + 1) cap e
    have hcm2 : grownCap w (n + 1) cap e ≤ maxLen := grownCap_le_maxLen w (n + 1) cap e (by simp only [maxLen]; omega)
    refine ⟨_, _, hr, ⟨hl, w.heap.size, _, _, (0, 0), rfl, hlo, by simp, heap_alloc_new w.drew _, .inl rfl, hge, hcm2, ?_, ?_⟩, ⟨rfl, rfl, rfl, by simp, fun k hk _ => _root_.Go.heap_alloc_old w.drew _ (r := k) hk⟩⟩
    · have hz1 : (Value.int IntKind.u8 0).cells.size = 1 := rfl
      simp only [Array.size_append, List.size_toArray, size_zeroCells, hz1, hxl, List.length_cons, List.length_nil]
      omega
    · simp only [Array.toList_append, List.append_assoc]
      rw [← List.append_assoc, ← hl]
      exact List.take_left
theorem u8_infoZ : (Tryz.prog.info? 5).map (fun i => (i.zero, i.size, i.bytes)) = some (some (.int .u8 0), 1, 1) := by kernel_rfl
/-- The conversion of a string to bytes. -/
theorem conv_bytes (s : ByteArray) (w : World) (hs : s.size ≤ 1000000000) : ∃ v w', (convert 9 28 (.string s)).run Tryz.prog w = .ok v w' ∧ OwZ 5 w' w.heap.size w'.heap.size v s.size (Lib.strCells s) ∧ Below w.heap.size w w' := by
  refine ⟨_, _, Lib.run_convert_string_bytes w 9 28 5 s Tryz.underlying9 Tryz.underlying28 Tryz.underlying5, ⟨Lib.strCells_length s, w.heap.size, _, _, _, rfl, Nat.le_refl _, by rw [Lib.bytesWorld_size]; omega, Lib.bytesWorld_at_new w 5 s, .inr ?_, grownCap_ge w s.size 0 5, grownCap_le_maxLen w s.size 0 5 (by simp only [maxLen]; omega), ?_, ?_⟩, ⟨rfl, rfl, rfl, by rw [Lib.bytesWorld_size]; omega, fun k hk => Lib.bytesWorld_at_old w 5 s k hk⟩⟩
  · have hge := grownCap_ge w s.size 0 5
    have h0 : s.data.size = s.size := rfl
    simp [Lib.bytesCells]; omega
  · have hge := grownCap_ge w s.size 0 5
    have h0 : s.data.size = s.size := rfl
    simp [Lib.bytesCells]; omega
  · have h0 : s.data.toList.length = s.size := by rw [Array.length_toList]; rfl
    simp only [Lib.bytesCells, Array.toList_append, Array.toList_map]
    rw [List.take_append_of_le_length (by rw [List.length_map, h0]; exact Nat.le_refl _), List.take_of_length_le (by rw [List.length_map, h0]; exact Nat.le_refl _)]
    rfl
/-- .. and back. -/
theorem conv_str {w : World} {lo hi : Nat} {v : Value} {n : Nat} {s : ByteArray} (h : OwZ 5 w lo hi v n (Lib.strCells s)) : (convert 28 9 v).run Tryz.prog w = .ok (.string s) w := by
  obtain ⟨g, cap, rfl, -, -, hc⟩ := h.cells
  have h0 := h.1
  rw [Lib.strCells_length] at h0
  subst h0
  have hlen : s.data.toList.length = s.size := by rw [Array.length_toList]; rfl
  have := run_convert_bytes_back (P := Tryz.prog) w 28 9 5 ⟨g, 0, none⟩ cap s.data.toList Tryz.underlying28 Tryz.underlying5 Tryz.underlying9 (fun j hj => hc j _ (by simp only [Lib.strCells, List.getElem?_map, List.getElem?_eq_getElem hj, Option.map_some]))
  rw [hlen] at this
  exact this
/-- The operations, for the walk. -/
theorem wpl_append_str_z {ops : Array Oper} {rest : List Oper} {o : Oper} {a : Act} {Q : Exit → Act → World → Prop} (hgd : o.guard = none) (sl x : Operand)
    (ho : o.op = .call { callee := .builtin .append, args := #[sl, x], argTypes := #[28, 9] })
    (w : World) (lo hi : Nat) (v : Value) (n : Nat) (us : List Value) (s : ByteArray) (hs : a.eval sl = v) (hx : a.eval x = .string s)
    (h : OwZ 5 w lo hi v n us) (hlen : n + s.size ≤ 1000000000) (hlo : lo ≤ w.heap.size) (hhi : hi ≤ w.heap.size)
    (hn : ∀ v' w', OwZ 5 w' lo w'.heap.size v' (n + s.size) (us ++ Lib.strCells s) → w.grownBy w' v.ownBlock → wpList Tryz.prog ops Q rest (a.put o.dst v') w') :
    wpList Tryz.prog ops Q (o :: rest) a w := by
  obtain ⟨i0, hi0, hz0, hz1, hz2⟩ := info_parts u8_infoZ
  refine wpList_plain hgd fun K hK => ?_
  obtain ⟨v', w', hr, h2, h3⟩ := run_append_str_z (P := Tryz.prog) 28 9 o.type 5 i0 Tryz.underlying28 Tryz.underlying9 hi0 hz0 hz1 hz2 h s hlen hlo hhi
  unfold Oper.wp execOp
  simp only [ho, resolve, invoke, builtin, Sem.run_bind, Sem.run_pure, Result.andThen_ok, List.map_toArray, List.map_cons, List.map_nil, hs, hx, hr]
  exact hK _ _ (hn v' w' h2 h3)
theorem wpl_append_one_z {ops : Array Oper} {rest : List Oper} {o : Oper} {a : Act} {Q : Exit → Act → World → Prop} (hgd : o.guard = none) (sl x : Operand)
    (ho : o.op = .call { callee := .builtin .append, args := #[sl, x], argTypes := #[28, 28] })
    (w : World) (lo hi : Nat) (v : Value) (n : Nat) (us : List Value) (ad : Addr) (c : Nat) (y : Value) (hs : a.eval sl = v) (hx : a.eval x = .slice (some ad) 1 c) (hy : w.cell? (ad.add 0) = some y) (hy1 : y.oneCell' = true)
    (h : OwZ 5 w lo hi v n us) (hlen : n + 1 ≤ 1000000000) (hlo : lo ≤ w.heap.size) (hhi : hi ≤ w.heap.size)
    (hn : ∀ v' w', OwZ 5 w' lo w'.heap.size v' (n + 1) (us ++ [y]) → w.grownBy w' v.ownBlock → wpList Tryz.prog ops Q rest (a.put o.dst v') w') :
    wpList Tryz.prog ops Q (o :: rest) a w := by
  obtain ⟨i0, hi0, hz0, hz1, hz2⟩ := info_parts u8_infoZ
  refine wpList_plain hgd fun K hK => ?_
  obtain ⟨v', w', hr, h2, h3⟩ := run_append_one_z (P := Tryz.prog) 28 o.type 5 i0 Tryz.underlying28 hi0 hz0 hz1 hz2 h ad c y hy hy1 hlen hlo hhi
  unfold Oper.wp execOp
  simp only [ho, resolve, invoke, builtin, Sem.run_bind, Sem.run_pure, Result.andThen_ok, List.map_toArray, List.map_cons, List.map_nil, hs, hx, hr]
  exact hK _ _ (hn v' w' h2 h3)
end Go.Proofs.YtgmppfhokfifgaaGreatDoor
