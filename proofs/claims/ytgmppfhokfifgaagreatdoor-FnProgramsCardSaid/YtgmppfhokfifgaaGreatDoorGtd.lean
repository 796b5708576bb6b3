/-
  Contracts: the program's SplitWords (strings.Split and slices.DeleteFunc); pieces between bytes (plain).
-/
import Derived.Test.YtgmppfhokfifgaaGreatDoorTxa
import Derived.Test.YtgmppfhokfifgaaGreatDoorGsh
import Derived.Shelf.SlicesE.DeleteFunc
namespace Go.Proofs.YtgmppfhokfifgaaGreatDoor
set_option maxRecDepth 10000
open Go.RowKit Go.Sort
set_option linter.unusedSimpArgs false

/-- strings.Split at one byte. -/
theorem splitK_sp (c : UInt8) : ∀ (k : Nat) (s : List UInt8), Lib.count s [c] = k → IsSp c s (Lib.splitK [c] 0 k s)
  | 0, s, h => by
    rw [Lib.count_one] at h
    refine ⟨by simp [Lib.splitK], fun x hx => ?_, by simp [Lib.splitK]⟩
    simp only [Lib.splitK, List.mem_singleton] at hx
    subst hx
    exact List.count_eq_zero.1 h
  | k + 1, s, h => by
    obtain ⟨i, hi⟩ := Lib.index_of_count (s := s) (old := [c]) (by omega)
    have hm : ¬ (Lib.index s [c] == -1) = true := fun e => by have := beq_iff_eq.1 e; omega
    have hc := Lib.count_hit (s := s) (sub := [c]) (by simp) hi
    have h1 := hi
    rw [Lib.index_one] at h1
    obtain ⟨h2, h3⟩ := Lib.indexByte_some h1
    have hlt : i < s.length := by
      rw [List.getElem?_eq_some_iff] at h2
      exact h2.1
    have ih := splitK_sp c k (s.drop (i + 1)) (by simp only [List.length_singleton] at hc; omega)
    have e : Lib.splitK [c] 0 (k + 1) s = s.take i :: Lib.splitK [c] 0 k (s.drop (i + 1)) := by
      rw [Lib.splitK, if_neg hm, hi]
      simp
    rw [e]
    refine ⟨by simp, fun x hx => ?_, ?_⟩
    · rcases List.mem_cons.1 hx with rfl | hx
      · intro q
        obtain ⟨j, hj⟩ := List.getElem?_of_mem q
        rw [List.getElem?_take] at hj
        split at hj
        · rename_i hji; exact h3 j hji hj
        · cases hj
      · exact ih.free x hx
    · rw [inter_cons _ ih.ne, ih.join]
      have h4 : s[i] = c := by rw [List.getElem?_eq_getElem hlt] at h2; exact Option.some.inj h2
      rw [← h4, ← List.drop_eq_getElem_cons hlt, List.take_append_drop]
theorem splitB_sp (c : UInt8) (s sep : ByteArray) (h : sep.data.toList = [c]) : IsSp c s.data.toList (bl_ (Lib.splitB sep 0 (Lib.countB s sep) s)) ∧ (Lib.splitB sep 0 (Lib.countB s sep) s).length = Lib.countB s sep + 1 ∧ Lib.countB s sep ≤ s.size := by
  have h1 : 1 ≤ sep.size := by rw [← tl_len_, h]; simp
  refine ⟨?_, Lib.splitB_all sep h1 0 _ s rfl, Lib.countB_le sep h1 _ s (Nat.le_refl _)⟩
  unfold bl_
  rw [Lib.splitB_data, h]
  exact splitK_sp c _ _ (by rw [← h])
def keepW (x : ByteArray) : Bool := !(x.toList.isEmpty)
theorem keepW_iff {x : ByteArray} : keepW x = true ↔ 0 < x.size := by
  unfold keepW
  rw [Bool.not_eq_true', ByteArray.toList_eq, ← tl_len_ x]
  generalize x.data.toList = l
  cases l <;> simp
/-- The world that strings.Split asks for. -/
def Sw (w : World) : Prop := ∃ m, w.cell? ⟨0, 0, none⟩ = some (.int .i64 m)
theorem Sw.below {w w' : World} (h : Sw w) (hb : Below w.heap.size w w') : Sw w' := by
  obtain ⟨m, hm⟩ := h
  exact ⟨m, by rw [hb.cell (block_lt_of_cell hm)]; exact hm⟩
theorem str_zero : ∀ w : World, (zeroValue 9).run Tryz.prog w = .ok (Value.string ByteArray.empty) w := Tryz.zeroValue9
theorem get_gs (d : List ByteArray) (j : Nat) (hj : j < d.length) : d.toArray[j]! = gs d j := by
  rw [getElem!_pos d.toArray j (by simpa using hj), gs_eq hj]; simp
theorem Words1_gives (x : ByteArray) (W : World) : FnGives Tryz.prog 57 #[] #[.string x] (.bool (!keepW x)) W := by
  show Calls Tryz.prog 57 #[.string x] W _
  have HK : Hid ((!keepW x) = x.toList.isEmpty) := Lib.hid (by unfold keepW; rw [Bool.not_not])
  go_enter Tryz.func57, Tryz.ntmps57
  go_wp2_with fail
  go_ret
  exact ⟨by rw [HK.out]; rfl, 0, rfl⟩
theorem DeleteEmpty_any {w : World} {g : Nat} {ps : List ByteArray} {c : Nat} (hx : w.heap[g]? = some (.cells ((ps.map Value.string).toArray) 9)) (hl : ps.length ≤ 1048577) (hc : ps.length ≤ c) (hcm : c ≤ maxLen) :
    Calls Tryz.prog 56 #[.slice (some ⟨g, 0, none⟩) ps.length c, .func (.func 57) #[] #[]] w fun e w' => ∃ v, e = .returned v ∧ SlW w' w'.heap.size v (ps.filter keepW) ∧ Below g w w' := by
  have eg : ∀ args w, (callFunc 57 args).run Tryz.prog w = .ok (.enter 57 args) w := enters_of Tryz.func57 (by kernel_rfl) rfl
  have hcell : ∀ j, j < ps.length → w.cell? ⟨g, j, none⟩ = some (.string (gs ps j)) := fun j hj => (cell_of_row w g j _ 9 (0, 0) hx).trans (by rw [gs_eq hj]; simp [hj])
  have hH : Holds Value.string w g 0 ps.toArray := fun j hj => by
    have hj' : j < ps.length := by simpa using hj
    refine ⟨?_, by simp only [World.frozen?, hx]; simp⟩
    rw [get_gs _ _ hj', Nat.zero_add]
    exact hcell j hj'
  have hg : g < w.heap.size := heap_lt hx
  have hd := Tryz.slices_DeleteFunc Value.string (fun _ => rfl) (fun x => !keepW x) 57 #[] eg ByteArray.empty str_zero g 0 c ps.toArray w (fun W x _ => Words1_gives x W) (fun n os dk x _ => Words1_gives x _) hH (by simp; omega) (by simpa using hc)
  simp only [List.size_toArray, List.toList_toArray, Bool.not_not] at hd
  refine hd.mono ?_
  rintro e w' ⟨rfl, q, rfl⟩
  obtain ⟨rs, hrs⟩ : ∃ rs, rs = ps.filter keepW := ⟨_, rfl⟩
  have hrl : rs.length ≤ ps.length := by rw [hrs]; exact List.length_filter_le _ _
  have hsz : (rs ++ List.replicate (ps.length - rs.length) ByteArray.empty).toArray.size = ps.toArray.size := by simp; omega
  have hb := holds_putRow Value.string (Sort.ahead w q) g 0 ps.toArray (rs ++ List.replicate (ps.length - rs.length) ByteArray.empty).toArray hH hsz
  rw [show (ps.filter fun x => keepW x) = rs from hrs.symm]
  refine ⟨_, rfl, ⟨g, 0, c, rfl, ?_, by omega, hcm, fun k hk => ?_⟩, ?_⟩
  · rw [size_putRow]; exact hg
  · have h1 := (hb k (by rw [hsz]; simp; omega)).1
    rw [h1, get_gs _ _ (by simp; omega)]
    congr 2
    simp [gs, List.getD, List.getElem?_append_left hk]
  · refine ⟨rfl, rfl, rfl, by rw [size_putRow]; exact Nat.le_refl _, fun k hk => ?_⟩
    show ((w.heap.modify g _)[k]?) = w.heap[k]?
    rw [Array.getElem?_modify, if_neg (by omega)]
set_option maxHeartbeats 3200000 in
/-- The words of a text: its pieces between blanks that are not empty. -/
theorem SplitWords_any (s : ByteArray) {w : World} (hs : s.size ≤ 1048576) (hw : Sw w) :
    Calls Tryz.prog 33 #[.string s] w fun e w' => ∃ v ps, e = .returned v ∧ IsSp 32 s.data.toList (bl_ ps) ∧ ps.length ≤ s.size + 1 ∧ SlW w' w'.heap.size v (ps.filter keepW) ∧ Below w.heap.size w w' := by
  obtain ⟨m, hm⟩ := hw
  obtain ⟨h1, h2, h3⟩ := splitB_sp 32 s { data := #[32] } rfl
  obtain ⟨ps, hps⟩ : ∃ ps, ps = Lib.splitB { data := #[32] } 0 (Lib.countB s { data := #[32] }) s := ⟨_, rfl⟩
  have HS := Tryz.strings_Split s { data := #[32] } m w (by omega) hm (by decide)
  rw [← hps] at h1 h2 HS
  rw [← h2] at HS
  have HSP := Lib.hid HS
  have HIS := Lib.hid h1
  have hl : ps.length ≤ s.size + 1 := by omega
  clear HS h1 h2 h3 hps hm
  go_enter Tryz.func33, Tryz.ntmps33
  go_wp2_with fail
  refine HSP.out.mono ?_
  rintro e w1 ⟨rfl, rfl⟩
  go_wp2_with fail
  refine (DeleteEmpty_any (alloc_at_ w _) (by omega) (Nat.le_refl _) (by simp only [maxLen]; omega)).mono ?_
  rintro e w2 ⟨v, rfl, hv, hq⟩
  go_wp2_with fail
  go_ret
  exact ⟨v, ps, rfl, HIS.out, hl, hv, (al1 w _).trans hq⟩
end Go.Proofs.YtgmppfhokfifgaaGreatDoor
/-
  Plain laws: what the program's ReadOp answers; slices.Index on the words of the kinds.
-/
namespace Go.Proofs.YtgmppfhokfifgaaGreatDoor
set_option maxRecDepth 10000
open Go.RowKit Go.Sort
set_option linter.unusedSimpArgs false

theorem dec_ne0 (c : Int) : 0 < (dec c).size := by
  obtain ⟨x, l, h, -⟩ := dec_head c
  rw [← tl_len_, h]; simp
theorem ndS_ne0 (b a : Int) : 0 < (ndS b a).size := by rw [← tl_len_, nd_data]; simp
theorem dirS_ne0 (d : Int) : 0 < (dirS d).size := by unfold dirS; split <;> decide
theorem kw_ne0 {m : Nat} (h1 : 1 ≤ m) (h2 : m ≤ 9) : 0 < (kw m).size := by
  rcases (show m = 1 ∨ m = 2 ∨ m = 3 ∨ m = 4 ∨ m = 5 ∨ m = 6 ∨ m = 7 ∨ m = 8 ∨ m = 9 by omega) with rfl | rfl | rfl | rfl | rfl | rfl | rfl | rfl | rfl <;> decide
/-- The words of a valid operation: one to five, none of them empty. -/
theorem opW_words {k d fb fa tb ta c r : Int} (h : vOp k d fb fa tb ta c r = true) : 0 < (opW k d fb fa tb ta c r).length ∧ (opW k d fb fa tb ta c r).length ≤ 5 ∧ ∀ x ∈ opW k d fb fa tb ta c r, keepW x = true := by
  obtain ⟨n, rfl, h1, h2, -, -, hs⟩ := op_cases h
  have hl : ∀ (p : Prop) [Decidable p] (x : ByteArray), (if p then [] else [x]).length = if p then 0 else 1 := fun p _ x => by split <;> rfl
  refine ⟨by simp [opW], ?_, fun x hx => ?_⟩
  · unfold opW
    rcases hs with ⟨q, hd, hf, ht, hc⟩ | ⟨q, hd, hf, ht, hc⟩ | ⟨q, hd, hf, ht, hc⟩ | ⟨q, hd, hf, ht, hc⟩ | ⟨q, hd, hf, ht, hc⟩ | ⟨q, hd, hf, ht, hc⟩ | ⟨q, hd, hf, ht, hc⟩
    · have h7 : ¬ ((n : Int) = 7) := by omega
      simp [hd, hf, ht, hc, h7]
    all_goals (subst q; simp [hd, hf, ht, hc])
  · rw [keepW_iff]
    unfold opW at hx
    simp only [List.mem_cons, List.mem_append] at hx
    rcases hx with rfl | (((hx | hx) | hx) | hx) | hx
    · exact kw_ne0 (by simpa using h1) (by simpa using h2)
    all_goals
      split at hx
      · first | (simp only [List.mem_singleton] at hx; subst hx; first | exact dirS_ne0 _ | exact ndS_ne0 _ _ | exact dec_ne0 _) | cases hx
      · first | (simp only [List.mem_singleton] at hx; subst hx; first | exact dirS_ne0 _ | exact ndS_ne0 _ _ | exact dec_ne0 _) | cases hx
theorem imp_words {s : ByteArray} {ps : List ByteArray} (h : IsSp 32 s.data.toList (bl_ ps)) {o : List Int} (hl : o.length = 8) (hv : opB o = true) (hs : opT o = s) :
    ps.filter keepW = ps ∧ 0 < ps.length ∧ ps.length ≤ 5 := by
  obtain ⟨hw, -⟩ := parse_valid hl hv hs h
  obtain ⟨h1, h2, h3⟩ := opW_words hv
  rw [← hw] at h1 h2 h3
  exact ⟨List.filter_eq_self.2 h3, h1, h2⟩
/-- The program's answer. -/
theorem rd_imp0 {s : ByteArray} {ps : List ByteArray} (h : IsSp 32 s.data.toList (bl_ ps)) (hn : (ps.filter keepW).length = 0 ∨ 5 < (ps.filter keepW).length) : RdRT s opz false := by
  refine .inr ⟨rfl, rfl, fun o hl hv hs => ?_⟩
  obtain ⟨e, h1, h2⟩ := imp_words h hl hv hs
  rw [e] at hn
  omega
theorem rd_imp {s : ByteArray} {ps us : List ByteArray} {n : Nat} (hu : us = ps.filter keepW) (hk : KindR (gs us 0) n) (h : IsSp 32 s.data.toList (bl_ ps)) {o : List Int} (ho : impO n (us.drop 1) = o) (hl : o.length = 8) :
    (opB o = true ∧ opT o = s → RdRT s o true) ∧ (opB o = false ∨ opT o ≠ s → RdRT s opz false) := by
  refine ⟨fun ⟨h1, h2⟩ => .inl ⟨rfl, hl, h1, h2⟩, fun h1 => .inr ⟨rfl, rfl, fun o' hl' hv' hs' => ?_⟩⟩
  obtain ⟨e, -, -⟩ := imp_words h hl' hv' hs'
  rw [e] at hu
  subst hu
  have := (parse_kind hk h hl' hv' hs').2
  have e : o = o' := ho.symm.trans this
  subst e
  rcases h1 with h1 | h1
  · rw [hv'] at h1; cases h1
  · exact h1 hs'
/-- The place of a word among the words of the kinds. -/
theorem kind_idx (x : ByteArray) : ∃ n : Nat, n ≤ 9 ∧ KindR x n ∧ max 0 (Lib.idxOfS kwL x) = (n : Int) := by
  by_cases h0 : kw 0 = x
  · subst h0
    exact ⟨0, by omega, .inr ⟨rfl, fun j h1 h2 e => by have := kw_inj ⟨j, by omega⟩ ⟨0, by omega⟩ e; simp at this; omega⟩, by decide⟩
  by_cases h1 : kw 1 = x
  · subst h1; exact ⟨1, by omega, .inl ⟨by omega, by omega, rfl⟩, by decide⟩
  by_cases h2 : kw 2 = x
  · subst h2; exact ⟨2, by omega, .inl ⟨by omega, by omega, rfl⟩, by decide⟩
  by_cases h3 : kw 3 = x
  · subst h3; exact ⟨3, by omega, .inl ⟨by omega, by omega, rfl⟩, by decide⟩
  by_cases h4 : kw 4 = x
  · subst h4; exact ⟨4, by omega, .inl ⟨by omega, by omega, rfl⟩, by decide⟩
  by_cases h5 : kw 5 = x
  · subst h5; exact ⟨5, by omega, .inl ⟨by omega, by omega, rfl⟩, by decide⟩
  by_cases h6 : kw 6 = x
  · subst h6; exact ⟨6, by omega, .inl ⟨by omega, by omega, rfl⟩, by decide⟩
  by_cases h7 : kw 7 = x
  · subst h7; exact ⟨7, by omega, .inl ⟨by omega, by omega, rfl⟩, by decide⟩
  by_cases h8 : kw 8 = x
  · subst h8; exact ⟨8, by omega, .inl ⟨by omega, by omega, rfl⟩, by decide⟩
  by_cases h9 : kw 9 = x
  · subst h9; exact ⟨9, by omega, .inl ⟨by omega, by omega, rfl⟩, by decide⟩
  · refine ⟨0, by omega, .inr ⟨rfl, fun j q1 q2 => ?_⟩, ?_⟩
    · rcases (show j = 1 ∨ j = 2 ∨ j = 3 ∨ j = 4 ∨ j = 5 ∨ j = 6 ∨ j = 7 ∨ j = 8 ∨ j = 9 by omega) with rfl | rfl | rfl | rfl | rfl | rfl | rfl | rfl | rfl <;> assumption
    · have e : Lib.idxOfS kwL x = -1 := by
        have q : ∀ k : Nat, k < 10 → ¬ (kw k = x) := fun k hk => by
          rcases (show k = 0 ∨ k = 1 ∨ k = 2 ∨ k = 3 ∨ k = 4 ∨ k = 5 ∨ k = 6 ∨ k = 7 ∨ k = 8 ∨ k = 9 by omega) with rfl | rfl | rfl | rfl | rfl | rfl | rfl | rfl | rfl | rfl <;> assumption
        have : kwL = [kw 0, kw 1, kw 2, kw 3, kw 4, kw 5, kw 6, kw 7, kw 8, kw 9] := rfl
        rw [this]
        simp [Lib.idxOfS, Lib.idxFromS, h0, h1, h2, h3, h4, h5, h6, h7, h8, h9]
      rw [e]; decide
end Go.Proofs.YtgmppfhokfifgaaGreatDoor
/-
  Contracts: the program's opOf. Printed by gen_txe.py.
-/
namespace Go.Proofs.YtgmppfhokfifgaaGreatDoor
set_option maxRecDepth 10000
open Go.RowKit Go.Sort
set_option linter.unusedSimpArgs false

set_option maxRecDepth 100000 in
set_option maxHeartbeats 12800000 in
theorem opOf_any {w : World} {v : Value} {us : List ByteArray} (hv : SlW w w.heap.size v us) (h0 : 0 < us.length) (h5 : us.length ≤ 5) (hs : ∀ k, k < us.length → (gs us k).size ≤ 1048576) (hd : Dw w) :
    Calls Tryz.prog 34 #[v] w fun e w' => ∃ (n : Nat) (a0 a1 a2 a3 a4 a5 a6 a7 : Int), e = .returned (.agg #[.int .i64 a0, .int .i64 a1, .int .i64 a2, .int .i64 a3, .int .i64 a4, .int .i64 a5, .int .i64 a6, .int .i64 a7]) ∧ KindR (gs us 0) n ∧ impO n (us.drop 1) = [a0, a1, a2, a3, a4, a5, a6, a7] ∧ Below w.heap.size w w' := by
  obtain ⟨g, off, c, rfl, hg, hlc, hcm, hcl⟩ := hv
  obtain ⟨x, hx⟩ : ∃ x, x = gs us 0 := ⟨_, rfl⟩
  obtain ⟨n, hn9, hk, hmax⟩ := kind_idx x
  have HK := Lib.hid hk
  have HX := Lib.hid hx
  have HD := Lib.hid hd
  have HS := Lib.hid hs
  have h0I : (0 : Int) < (us.length : Int) := by omega
  obtain ⟨w1, hw1⟩ : ∃ w1, w1 = w.alloc (.cells #[.int .i64 0, .int .i64 0, .int .i64 0, .int .i64 0, .int .i64 0, .int .i64 0, .int .i64 0, .int .i64 0] 38) := ⟨_, rfl⟩
  have ha : Below w.heap.size w w1 := by rw [hw1]; exact al1 _ _
  have hsz1 : w1.heap.size = w.heap.size + 1 := by rw [hw1]; simp
  have HA := Lib.hid ha
  have HR0 : Hid (w1.heap[w.heap.size]? = some (.cells #[.int .i64 0, .int .i64 0, .int .i64 0, .int .i64 0, .int .i64 0, .int .i64 0, .int .i64 0, .int .i64 0] 38)) := Lib.hid (by rw [hw1]; exact alloc_at_ _ _)
  have hg1 : g < w1.heap.size := by omega
  have HCL : Hid (∀ k, k < us.length → w1.cell? ⟨g, off + k, none⟩ = some (.string (gs us k))) := Lib.hid fun k hk => by rw [ha.cell hg]; exact hcl k hk
  have hc0 : w1.cell? ⟨g, off, none⟩ = some (.string x) := by rw [hx]; exact HCL.out 0 h0
  have HKP := Lib.hid (fun w' (hw : Below w1.heap.size w1 w') => show w'.cell? ⟨g, off, none⟩ = some (.string x) ∧ Below w1.heap.size w1 w' from ⟨(hw.cell hg1).trans hc0, hw⟩)
  obtain ⟨ix, hix⟩ : ∃ ix, ix = Lib.idxOfS kwL x := ⟨_, rfl⟩
  rw [← hix] at hmax
  have HZ1 := Lib.hid hsz1
  have HIX : Hid (∀ (b : Nat) (W : World), (∀ j, j < 10 → W.cell? ⟨b, j, none⟩ = some (.string (kw j))) → Calls Tryz.prog 58 #[.slice (some ⟨b, 0, none⟩) 10 10, .string x] W fun e w' => e = .returned (.int .i64 ix) ∧ w' = W) := Lib.hid fun b W hW => by
    rw [hix]
    have := Tryz.slices_Index_string b 0 10 10 kwL x W (by decide) (by decide) (fun j hj => by rw [Nat.zero_add]; exact hW j hj)
    exact this
  clear hk hx hd hcl hc0 ha hs hix hsz1
  go_enter Tryz.func34, Tryz.ntmps34
  go_upto_region 1 with fail
  rw [← hw1]
  clear hw1
  go_cut [3] (fun s3 wx => ∃ bo : Nat, s3 = .pointer (some ⟨bo, 0, none⟩) ∧ w1.heap.size ≤ bo ∧ wx.heap[bo]? = some (.cells #[.int .i64 ((n : Int)), .int .i64 0, .int .i64 0, .int .i64 0, .int .i64 0, .int .i64 0, .int .i64 0, .int .i64 0] 38) ∧ Below w1.heap.size w1 wx)
  case first =>
    go_region_held3 (fun w' => w'.cell? ⟨g, off, none⟩ = some (.string x) ∧ Below w1.heap.size w1 w') (exact HKP.out _ (by first | with_reducible assumption | with_reducible exact Below.refl _ _ | with_reducible exact below_drewN (Below.refl _ _) _ | with_reducible exact (Below.refl _ _).drew | go_grown))
      (first
        | (go_at_call 52; (refine (opWords_any _).mono ?_); rintro e w5 ⟨gw, rfl, hgw, hq⟩; have hr5 : Below w1.heap.size w1 w5 := Below.trans (by first | assumption | go_grown) (hq.mono (Below.size (w := w1) (B := w1.heap.size) (by first | assumption | go_grown))); have hz5 := hr5.size; (first | (have dz : w5.heap[w1.heap.size]? = some (.cells #[.int .i64 0, .int .i64 0, .int .i64 0, .int .i64 0, .int .i64 0, .int .i64 0, .int .i64 0, .int .i64 0] 38) := (by first | exact alloc_fwd hq | exact alloc_fwd_drew hq | exact alloc_fwd_drewN hq); have HDZ := Lib.hid dz; obtain ⟨⟨z0, z1, z2, z3, z4, z5, z6, z7⟩, ⟨zf0, zf1, zf2, zf3, zf4, zf5, zf6, zf7⟩, zl⟩ := bx8f dz; clear dz) | skip); have HGW := Lib.hid (fun (W : World) (hW : Below w5.heap.size w5 W) (j : Nat) (hj : j < 10) => ((hW.cell (block_lt_of_cell (hgw j hj))).trans (hgw j hj))); clear hgw hq)
        | (go_at_call 58; (refine (HIX.out _ _ (HGW.out _ (by first | with_reducible exact Below.refl _ _ | go_grown))).mono ?_); rintro e w6 ⟨rfl, rfl⟩))
    all_goals
      go_wp2_with fail
      go_meet
      first
        | exact ⟨_, rfl, hz5, alloc_at_ _ _, hr5.trans ((al1 _ _).mono hz5)⟩
        | exact ⟨_, rfl, Nat.le_refl _, (bx8_set _ _ _ _ _ _ _ _ HDZ.out).1, hr5.trans ((bx8_set _ _ _ _ _ _ _ _ HDZ.out).2.2 _ (Nat.le_refl _))⟩
  case rest =>
  obtain ⟨bo, rfl, hbo, hxb, hb2⟩ := hcut
  obtain ⟨w2, hw2⟩ : ∃ x, x = wc := ⟨_, rfl⟩
  subst hw2
  have HXB := Lib.hid hxb
  have HB2 := Lib.hid hb2
  have hg2 : g < w2.heap.size := Nat.lt_of_lt_of_le hg1 hb2.size
  clear hxb hb2 HKP HIX
  go_upto_region 2 with fail
  go_cut [18, 19, 20] (fun s18 s19 s20 wx => ∃ o2 c2, s18 = .slice (some ⟨g, o2, none⟩) (us.length - 1) c2 ∧ s19 = .int .i64 ((us.length - 1 : Nat) : Int) ∧ s20 = .int .i64 0 ∧ us.length - 1 ≤ c2 ∧ (0 < us.length - 1 → o2 = off + 1) ∧ wx = w2)
  case first =>
    by_cases hc1 : c = 1
    · go_wp2_with fail
      go_meet
      exact ⟨_, _, rfl, rfl, rfl, by omega, fun q => by omega, rfl⟩
    · go_wp2_with fail
      go_meet
      exact ⟨_, _, rfl, rfl, rfl, by omega, fun _ => rfl, rfl⟩
  case rest =>
  obtain ⟨o2, c2, rfl, rfl, rfl, hc2, ho2, hw⟩ := hcut
  subst hw
  obtain ⟨nr, hnr⟩ : ∃ x, x = us.length - 1 := ⟨_, rfl⟩
  obtain ⟨rs, hrs⟩ : ∃ rs, rs = us.drop 1 := ⟨_, rfl⟩
  have hrl : rs.length = nr := by rw [hrs, List.length_drop, hnr]
  have HRS : Hid (∀ k, k < nr → w1.cell? ⟨g, off + 1 + k, none⟩ = some (.string (gs rs k)) ∧ (gs rs k).size ≤ 1048576) := Lib.hid fun k hk => by
    rw [hrs, gs_drop, Nat.add_assoc]
    exact ⟨HCL.out _ (by omega), HS.out _ (by omega)⟩
  have HRD := Lib.hid hrs
  have hn5 : nr ≤ 5 := by omega
  clear HCL HS hrs
  rw [← hnr] at hc2 ho2
  rw [show us.length - 1 = nr from hnr.symm]
  have HRS2 : Hid (∀ k, k < nr → w1.cell? ⟨g, o2 + k, none⟩ = some (.string (gs rs k)) ∧ (gs rs k).size ≤ 1048576) := Lib.hid fun k hk => by
    rw [ho2 (by omega)]; exact HRS.out k hk
  have HX0_ : Hid (wc.heap[bo]? = some (.cells #[.int .i64 ((n : Int)), .int .i64 0, .int .i64 0, .int .i64 0, .int .i64 0, .int .i64 0, .int .i64 0, .int .i64 0] 38) ∧ Below w1.heap.size w1 wc) := Lib.hid ⟨HXB.out, HB2.out⟩
  clear hnr ho2 HRS HXB HB2
  go_wp2_with fail
  go_loopw [20] (fun i wr => ∃ (k : Nat) (a0 a1 a2 a3 a4 a5 a6 a7 : Int), k ≤ nr ∧ i = .int .i64 k ∧ Below w1.heap.size w1 wr ∧ wr.heap[bo]? = some (.cells #[.int .i64 a0, .int .i64 a1, .int .i64 a2, .int .i64 a3, .int .i64 a4, .int .i64 a5, .int .i64 a6, .int .i64 a7] 38) ∧ impUp rs (op0 n) k = [a0, a1, a2, a3, a4, a5, a6, a7]) (fun i _ => nr - (intOf i).toNat)
  case atStart => exact ⟨0, _, _, _, _, _, _, _, _, Nat.zero_le _, rfl, HX0_.out.2, HX0_.out.1, rfl⟩
  case round =>
    obtain ⟨k, a0, a1, a2, a3, a4, a5, a6, a7, hk, rfl, hb, hx, hu⟩ := hrel
    have HB := Lib.hid hb
    have HX2 := Lib.hid hx
    have HU := Lib.hid hu
    clear hb hx hu HX0_
    by_cases hlt : k < nr
    · have hltI : (k : Int) < (nr : Int) := by omega
      obtain ⟨hc0, hsz⟩ := HRS2.out k hlt
      obtain ⟨y, hy⟩ : ∃ y, y = gs rs k := ⟨_, rfl⟩
      rw [← hy] at hc0 hsz
      have HGY := Lib.hid hy
      have q0 : wr.cell? ⟨g, o2 + k, none⟩ = some (.string y) := (HB.out.cell hg1).trans hc0
      clear hy hc0
      obtain ⟨nb, na, nok, hN⟩ : ∃ b a ok, ndC y = (b, a, ok) := ⟨_, _, _, rfl⟩
      obtain ⟨m, mok, hM⟩ : ∃ a ok, numC y = (a, ok) := ⟨_, _, rfl⟩
      have HDW : Hid (∀ W : World, Below w1.heap.size w1 W → Dw W) := Lib.hid fun W hW => (HD.out.below HA.out).below hW
      have HRN := Lib.hid (fun (W : World) (hW : Dw W) => (show Calls Tryz.prog 59 #[.string y] W fun e w' => e = .returned (.tuple #[.agg #[.int .i64 nb, .int .i64 na], .bool nok]) ∧ Below W.heap.size W w' from by have := impl_ReadNeedle_any y hsz hW; rw [hN] at this; exact this))
      have HNU := Lib.hid (fun (W : World) (hW : Dw W) => (show Calls Tryz.prog 44 #[.string y] W fun e w' => e = .returned (.tuple #[.int .i64 m, .bool mok]) ∧ Below W.heap.size W w' from by have := ReadDecimal_any y hsz hW; rw [hM] at this; exact this))
      have HN := Lib.hid hN
      have HM := Lib.hid hM
      clear hN hM
      by_cases hgt : y = gtB
      · have HGT := Lib.hid hgt
        have hcA : y.toList = [62] := by rw [hgt]; exact gt_list
        have hcA2 : (y.toList == [62]) = true := by rw [hcA]; rfl
        clear hgt
        have HS : Hid (impStep y [a0, a1, a2, a3, a4, a5, a6, a7] = [a0, 1, a2, a3, a4, a5, a6, a7]) := Lib.hid (by unfold impStep; rw [if_pos HGT.out]; simp [setD, gi])
        go_wp2_with fail
        refine (HNU.out _ (HDW.out _ HB.out)).mono ?_
        rintro e w3 ⟨rfl, hq⟩
        have hb3 := HB.out.trans (hq.mono HB.out.size)
        have HB3 := Lib.hid hb3
        have HX3 := Lib.hid (keep_fwd hq HX2.out)
        clear hb3 hq
        go_wp2_with fail
        refine (HRN.out _ (HDW.out _ HB3.out)).mono ?_
        rintro e w4 ⟨rfl, hq⟩
        have hb4 : Below w1.heap.size w1 (w4.alloc (.cells #[.int .i64 nb, .int .i64 na] 36)) := HB3.out.trans ((hq.mono HB3.out.size).trans ((al1 w4 _).mono (Nat.le_trans HB3.out.size hq.size)))
        have hx4 := keep_fwd (al1 w4 (.cells #[.int .i64 nb, .int .i64 na] 36)) (keep_fwd hq HX3.out)
        have HB4 := Lib.hid hb4
        have HX4 := Lib.hid hx4
        obtain ⟨⟨x0, x1, x2, x3, x4, x5, x6, x7⟩, ⟨xf0, xf1, xf2, xf3, xf4, xf5, xf6, xf7⟩, xl⟩ := bx8f (keep_fwd hq HX3.out)
        have HB5 := Lib.hid (HB3.out.trans (hq.mono HB3.out.size))
        have HX5 := Lib.hid (keep_fwd hq HX3.out)
        clear hb4 hx4 hq q0
        go_wp2_with fail
        go_roundw
        case rel =>
          first
            | exact ⟨k + 1, _, _, _, _, _, _, _, _, by omega, by go_num, setBN (show w1.heap.size ≤ (⟨bo, 1, none⟩ : Addr).block from hbo) (HB4.out), heap_setCell_at (k := 1) (.int .i64 1) (HX4.out), by (show impStep (gs rs k) (impUp rs (op0 n) k) = _); rw [HU.out, ← HGY.out]; exact HS.out⟩
            | exact ⟨k + 1, _, _, _, _, _, _, _, _, by omega, by go_num, allocBN (setBN (show w1.heap.size ≤ (⟨bo, 1, none⟩ : Addr).block from hbo) (HB5.out)) (by have := HB5.out.size; simpa using this), keep_fwd (al1 _ _) (heap_setCell_at (k := 1) (.int .i64 1) (HX5.out)), by (show impStep (gs rs k) (impUp rs (op0 n) k) = _); rw [HU.out, ← HGY.out]; exact HS.out⟩
        case measure => simp [intOf]; omega
      · have hcA : ¬ (y.toList = [62]) := fun q => hgt (tl_inj (q.trans gt_list.symm))
        have hcA2 : (y.toList == [62]) = false := by rw [beq_eq_false_iff_ne]; exact hcA
        have HGT := Lib.hid hgt
        by_cases hlt2 : y = ltB
        · have HLT := Lib.hid hlt2
          have hcB : y.toList = [60] := by rw [hlt2]; exact lt_list
          have hcB2 : (y.toList == [60]) = true := by rw [hcB]; rfl
          clear hgt hlt2
          have HS : Hid (impStep y [a0, a1, a2, a3, a4, a5, a6, a7] = [a0, -1, a2, a3, a4, a5, a6, a7]) := Lib.hid (by unfold impStep; rw [if_neg HGT.out, if_pos HLT.out]; simp [setD, gi])
          go_wp2_with fail
          refine (HNU.out _ (HDW.out _ HB.out)).mono ?_
          rintro e w3 ⟨rfl, hq⟩
          have hb3 := HB.out.trans (hq.mono HB.out.size)
          have HB3 := Lib.hid hb3
          have HX3 := Lib.hid (keep_fwd hq HX2.out)
          clear hb3 hq
          go_wp2_with fail
          refine (HRN.out _ (HDW.out _ HB3.out)).mono ?_
          rintro e w4 ⟨rfl, hq⟩
          have hb4 : Below w1.heap.size w1 (w4.alloc (.cells #[.int .i64 nb, .int .i64 na] 36)) := HB3.out.trans ((hq.mono HB3.out.size).trans ((al1 w4 _).mono (Nat.le_trans HB3.out.size hq.size)))
          have hx4 := keep_fwd (al1 w4 (.cells #[.int .i64 nb, .int .i64 na] 36)) (keep_fwd hq HX3.out)
          have HB4 := Lib.hid hb4
          have HX4 := Lib.hid hx4
          obtain ⟨⟨x0, x1, x2, x3, x4, x5, x6, x7⟩, ⟨xf0, xf1, xf2, xf3, xf4, xf5, xf6, xf7⟩, xl⟩ := bx8f (keep_fwd hq HX3.out)
          have HB5 := Lib.hid (HB3.out.trans (hq.mono HB3.out.size))
          have HX5 := Lib.hid (keep_fwd hq HX3.out)
          clear hb4 hx4 hq q0
          go_wp2_with fail
          go_roundw
          case rel =>
            first
              | exact ⟨k + 1, _, _, _, _, _, _, _, _, by omega, by go_num, setBN (show w1.heap.size ≤ (⟨bo, 1, none⟩ : Addr).block from hbo) (HB4.out), heap_setCell_at (k := 1) (.int .i64 (-1)) (HX4.out), by (show impStep (gs rs k) (impUp rs (op0 n) k) = _); rw [HU.out, ← HGY.out]; exact HS.out⟩
              | exact ⟨k + 1, _, _, _, _, _, _, _, _, by omega, by go_num, allocBN (setBN (show w1.heap.size ≤ (⟨bo, 1, none⟩ : Addr).block from hbo) (HB5.out)) (by have := HB5.out.size; simpa using this), keep_fwd (al1 _ _) (heap_setCell_at (k := 1) (.int .i64 (-1)) (HX5.out)), by (show impStep (gs rs k) (impUp rs (op0 n) k) = _); rw [HU.out, ← HGY.out]; exact HS.out⟩
          case measure => simp [intOf]; omega
        · have HLT := Lib.hid hlt2
          have hcB : ¬ (y.toList = [60]) := fun q => hlt2 (tl_inj (q.trans lt_list.symm))
          have hcB2 : (y.toList == [60]) = false := by rw [beq_eq_false_iff_ne]; exact hcB
          clear hgt hlt2
          cases nok
          · cases mok
            · skip
              have HS : Hid (impStep y [a0, a1, a2, a3, a4, a5, a6, a7] = [a0, a1, a2, a3, a4, a5, a6, a7]) := Lib.hid (by unfold impStep; rw [if_neg HGT.out, if_neg HLT.out, HN.out, HM.out]; simp [setF, setT, setR, setK, gi])
              go_wp2_with fail
              refine (HNU.out _ (HDW.out _ HB.out)).mono ?_
              rintro e w3 ⟨rfl, hq⟩
              have hb3 := HB.out.trans (hq.mono HB.out.size)
              have HB3 := Lib.hid hb3
              have HX3 := Lib.hid (keep_fwd hq HX2.out)
              clear hb3 hq
              go_wp2_with fail
              refine (HRN.out _ (HDW.out _ HB3.out)).mono ?_
              rintro e w4 ⟨rfl, hq⟩
              have hb4 : Below w1.heap.size w1 (w4.alloc (.cells #[.int .i64 nb, .int .i64 na] 36)) := HB3.out.trans ((hq.mono HB3.out.size).trans ((al1 w4 _).mono (Nat.le_trans HB3.out.size hq.size)))
              have hx4 := keep_fwd (al1 w4 (.cells #[.int .i64 nb, .int .i64 na] 36)) (keep_fwd hq HX3.out)
              have HB4 := Lib.hid hb4
              have HX4 := Lib.hid hx4
              obtain ⟨⟨x0, x1, x2, x3, x4, x5, x6, x7⟩, ⟨xf0, xf1, xf2, xf3, xf4, xf5, xf6, xf7⟩, xl⟩ := bx8f (keep_fwd hq HX3.out)
              have HB5 := Lib.hid (HB3.out.trans (hq.mono HB3.out.size))
              have HX5 := Lib.hid (keep_fwd hq HX3.out)
              clear hb4 hx4 hq q0
              go_wp2_with fail
              go_roundw
              case rel =>
                first
                  | exact ⟨k + 1, _, _, _, _, _, _, _, _, by omega, by go_num, HB4.out, HX4.out, by (show impStep (gs rs k) (impUp rs (op0 n) k) = _); rw [HU.out, ← HGY.out]; exact HS.out⟩
                  | exact ⟨k + 1, _, _, _, _, _, _, _, _, by omega, by go_num, allocBN (HB5.out) (by have := HB5.out.size; simpa using this), keep_fwd (al1 _ _) (HX5.out), by (show impStep (gs rs k) (impUp rs (op0 n) k) = _); rw [HU.out, ← HGY.out]; exact HS.out⟩
              case measure => simp [intOf]; omega
            · by_cases h7 : a0 = 7
              · subst h7
                have HS : Hid (impStep y [7, a1, a2, a3, a4, a5, a6, a7] = [7, a1, a2, a3, a4, a5, a6, m]) := Lib.hid (by unfold impStep; rw [if_neg HGT.out, if_neg HLT.out, HN.out, HM.out]; simp [setF, setT, setR, setK, gi])
                go_wp2_with fail
                refine (HNU.out _ (HDW.out _ HB.out)).mono ?_
                rintro e w3 ⟨rfl, hq⟩
                have hb3 := HB.out.trans (hq.mono HB.out.size)
                have HB3 := Lib.hid hb3
                have HX3 := Lib.hid (keep_fwd hq HX2.out)
                clear hb3 hq
                go_wp2_with fail
                refine (HRN.out _ (HDW.out _ HB3.out)).mono ?_
                rintro e w4 ⟨rfl, hq⟩
                have hb4 : Below w1.heap.size w1 (w4.alloc (.cells #[.int .i64 nb, .int .i64 na] 36)) := HB3.out.trans ((hq.mono HB3.out.size).trans ((al1 w4 _).mono (Nat.le_trans HB3.out.size hq.size)))
                have hx4 := keep_fwd (al1 w4 (.cells #[.int .i64 nb, .int .i64 na] 36)) (keep_fwd hq HX3.out)
                have HB4 := Lib.hid hb4
                have HX4 := Lib.hid hx4
                obtain ⟨⟨x0, x1, x2, x3, x4, x5, x6, x7⟩, ⟨xf0, xf1, xf2, xf3, xf4, xf5, xf6, xf7⟩, xl⟩ := bx8f (keep_fwd hq HX3.out)
                have HB5 := Lib.hid (HB3.out.trans (hq.mono HB3.out.size))
                have HX5 := Lib.hid (keep_fwd hq HX3.out)
                clear hb4 hx4 hq q0
                go_wp2_with fail
                go_roundw
                case rel =>
                  first
                    | exact ⟨k + 1, _, _, _, _, _, _, _, _, by omega, by go_num, setBN (show w1.heap.size ≤ (⟨bo, 7, none⟩ : Addr).block from hbo) (HB4.out), heap_setCell_at (k := 7) (.int .i64 m) (HX4.out), by (show impStep (gs rs k) (impUp rs (op0 n) k) = _); rw [HU.out, ← HGY.out]; exact HS.out⟩
                    | exact ⟨k + 1, _, _, _, _, _, _, _, _, by omega, by go_num, allocBN (setBN (show w1.heap.size ≤ (⟨bo, 7, none⟩ : Addr).block from hbo) (HB5.out)) (by have := HB5.out.size; simpa using this), keep_fwd (al1 _ _) (heap_setCell_at (k := 7) (.int .i64 m) (HX5.out)), by (show impStep (gs rs k) (impUp rs (op0 n) k) = _); rw [HU.out, ← HGY.out]; exact HS.out⟩
                case measure => simp [intOf]; omega
              · skip
                have HS : Hid (impStep y [a0, a1, a2, a3, a4, a5, a6, a7] = [a0, a1, a2, a3, a4, a5, m, a7]) := Lib.hid (by unfold impStep; rw [if_neg HGT.out, if_neg HLT.out, HN.out, HM.out]; simp [setF, setT, setR, setK, gi, h7])
                go_wp2_with fail
                refine (HNU.out _ (HDW.out _ HB.out)).mono ?_
                rintro e w3 ⟨rfl, hq⟩
                have hb3 := HB.out.trans (hq.mono HB.out.size)
                have HB3 := Lib.hid hb3
                have HX3 := Lib.hid (keep_fwd hq HX2.out)
                clear hb3 hq
                go_wp2_with fail
                refine (HRN.out _ (HDW.out _ HB3.out)).mono ?_
                rintro e w4 ⟨rfl, hq⟩
                have hb4 : Below w1.heap.size w1 (w4.alloc (.cells #[.int .i64 nb, .int .i64 na] 36)) := HB3.out.trans ((hq.mono HB3.out.size).trans ((al1 w4 _).mono (Nat.le_trans HB3.out.size hq.size)))
                have hx4 := keep_fwd (al1 w4 (.cells #[.int .i64 nb, .int .i64 na] 36)) (keep_fwd hq HX3.out)
                have HB4 := Lib.hid hb4
                have HX4 := Lib.hid hx4
                obtain ⟨⟨x0, x1, x2, x3, x4, x5, x6, x7⟩, ⟨xf0, xf1, xf2, xf3, xf4, xf5, xf6, xf7⟩, xl⟩ := bx8f (keep_fwd hq HX3.out)
                have HB5 := Lib.hid (HB3.out.trans (hq.mono HB3.out.size))
                have HX5 := Lib.hid (keep_fwd hq HX3.out)
                clear hb4 hx4 hq q0
                go_wp2_with fail
                go_roundw
                case rel =>
                  first
                    | exact ⟨k + 1, _, _, _, _, _, _, _, _, by omega, by go_num, setBN (show w1.heap.size ≤ (⟨bo, 6, none⟩ : Addr).block from hbo) (HB4.out), heap_setCell_at (k := 6) (.int .i64 m) (HX4.out), by (show impStep (gs rs k) (impUp rs (op0 n) k) = _); rw [HU.out, ← HGY.out]; exact HS.out⟩
                    | exact ⟨k + 1, _, _, _, _, _, _, _, _, by omega, by go_num, allocBN (setBN (show w1.heap.size ≤ (⟨bo, 6, none⟩ : Addr).block from hbo) (HB5.out)) (by have := HB5.out.size; simpa using this), keep_fwd (al1 _ _) (heap_setCell_at (k := 6) (.int .i64 m) (HX5.out)), by (show impStep (gs rs k) (impUp rs (op0 n) k) = _); rw [HU.out, ← HGY.out]; exact HS.out⟩
                case measure => simp [intOf]; omega
          · by_cases hb0 : a2 = 0
            · subst hb0
              have HS : Hid (impStep y [a0, a1, 0, a3, a4, a5, a6, a7] = [a0, a1, nb, na, a4, a5, a6, a7]) := Lib.hid (by unfold impStep; rw [if_neg HGT.out, if_neg HLT.out, HN.out]; simp [setF, setT, setR, setK, gi])
              go_wp2_with fail
              refine (HNU.out _ (HDW.out _ HB.out)).mono ?_
              rintro e w3 ⟨rfl, hq⟩
              have hb3 := HB.out.trans (hq.mono HB.out.size)
              have HB3 := Lib.hid hb3
              have HX3 := Lib.hid (keep_fwd hq HX2.out)
              clear hb3 hq
              go_wp2_with fail
              refine (HRN.out _ (HDW.out _ HB3.out)).mono ?_
              rintro e w4 ⟨rfl, hq⟩
              have hb4 : Below w1.heap.size w1 (w4.alloc (.cells #[.int .i64 nb, .int .i64 na] 36)) := HB3.out.trans ((hq.mono HB3.out.size).trans ((al1 w4 _).mono (Nat.le_trans HB3.out.size hq.size)))
              have hx4 := keep_fwd (al1 w4 (.cells #[.int .i64 nb, .int .i64 na] 36)) (keep_fwd hq HX3.out)
              have HB4 := Lib.hid hb4
              have HX4 := Lib.hid hx4
              obtain ⟨⟨x0, x1, x2, x3, x4, x5, x6, x7⟩, ⟨xf0, xf1, xf2, xf3, xf4, xf5, xf6, xf7⟩, xl⟩ := bx8f (keep_fwd hq HX3.out)
              have HB5 := Lib.hid (HB3.out.trans (hq.mono HB3.out.size))
              have HX5 := Lib.hid (keep_fwd hq HX3.out)
              clear hb4 hx4 hq q0
              go_wp2_with fail
              go_roundw
              case rel =>
                first
                  | exact ⟨k + 1, _, _, _, _, _, _, _, _, by omega, by go_num, setBN (show w1.heap.size ≤ (⟨bo, 3, none⟩ : Addr).block from hbo) (setBN (show w1.heap.size ≤ (⟨bo, 2, none⟩ : Addr).block from hbo) (HB4.out)), heap_setCell_at (k := 3) (.int .i64 na) (heap_setCell_at (k := 2) (.int .i64 nb) (HX4.out)), by (show impStep (gs rs k) (impUp rs (op0 n) k) = _); rw [HU.out, ← HGY.out]; exact HS.out⟩
                  | exact ⟨k + 1, _, _, _, _, _, _, _, _, by omega, by go_num, allocBN (setBN (show w1.heap.size ≤ (⟨bo, 3, none⟩ : Addr).block from hbo) (setBN (show w1.heap.size ≤ (⟨bo, 2, none⟩ : Addr).block from hbo) (HB5.out))) (by have := HB5.out.size; simpa using this), keep_fwd (al1 _ _) (heap_setCell_at (k := 3) (.int .i64 na) (heap_setCell_at (k := 2) (.int .i64 nb) (HX5.out))), by (show impStep (gs rs k) (impUp rs (op0 n) k) = _); rw [HU.out, ← HGY.out]; exact HS.out⟩
              case measure => simp [intOf]; omega
            · skip
              have HS : Hid (impStep y [a0, a1, a2, a3, a4, a5, a6, a7] = [a0, a1, a2, a3, nb, na, a6, a7]) := Lib.hid (by unfold impStep; rw [if_neg HGT.out, if_neg HLT.out, HN.out]; simp [setF, setT, setR, setK, gi, hb0])
              go_wp2_with fail
              refine (HNU.out _ (HDW.out _ HB.out)).mono ?_
              rintro e w3 ⟨rfl, hq⟩
              have hb3 := HB.out.trans (hq.mono HB.out.size)
              have HB3 := Lib.hid hb3
              have HX3 := Lib.hid (keep_fwd hq HX2.out)
              clear hb3 hq
              go_wp2_with fail
              refine (HRN.out _ (HDW.out _ HB3.out)).mono ?_
              rintro e w4 ⟨rfl, hq⟩
              have hb4 : Below w1.heap.size w1 (w4.alloc (.cells #[.int .i64 nb, .int .i64 na] 36)) := HB3.out.trans ((hq.mono HB3.out.size).trans ((al1 w4 _).mono (Nat.le_trans HB3.out.size hq.size)))
              have hx4 := keep_fwd (al1 w4 (.cells #[.int .i64 nb, .int .i64 na] 36)) (keep_fwd hq HX3.out)
              have HB4 := Lib.hid hb4
              have HX4 := Lib.hid hx4
              obtain ⟨⟨x0, x1, x2, x3, x4, x5, x6, x7⟩, ⟨xf0, xf1, xf2, xf3, xf4, xf5, xf6, xf7⟩, xl⟩ := bx8f (keep_fwd hq HX3.out)
              have HB5 := Lib.hid (HB3.out.trans (hq.mono HB3.out.size))
              have HX5 := Lib.hid (keep_fwd hq HX3.out)
              clear hb4 hx4 hq q0
              go_wp2_with fail
              go_roundw
              case rel =>
                first
                  | exact ⟨k + 1, _, _, _, _, _, _, _, _, by omega, by go_num, setBN (show w1.heap.size ≤ (⟨bo, 5, none⟩ : Addr).block from hbo) (setBN (show w1.heap.size ≤ (⟨bo, 4, none⟩ : Addr).block from hbo) (HB4.out)), heap_setCell_at (k := 5) (.int .i64 na) (heap_setCell_at (k := 4) (.int .i64 nb) (HX4.out)), by (show impStep (gs rs k) (impUp rs (op0 n) k) = _); rw [HU.out, ← HGY.out]; exact HS.out⟩
                  | exact ⟨k + 1, _, _, _, _, _, _, _, _, by omega, by go_num, allocBN (setBN (show w1.heap.size ≤ (⟨bo, 5, none⟩ : Addr).block from hbo) (setBN (show w1.heap.size ≤ (⟨bo, 4, none⟩ : Addr).block from hbo) (HB5.out))) (by have := HB5.out.size; simpa using this), keep_fwd (al1 _ _) (heap_setCell_at (k := 5) (.int .i64 na) (heap_setCell_at (k := 4) (.int .i64 nb) (HX5.out))), by (show impStep (gs rs k) (impUp rs (op0 n) k) = _); rw [HU.out, ← HGY.out]; exact HS.out⟩
              case measure => simp [intOf]; omega
    · obtain rfl : k = nr := by omega
      have HI : Hid (impO n (us.drop 1) = [a0, a1, a2, a3, a4, a5, a6, a7]) := Lib.hid (by rw [← HRD.out]; unfold impO; rw [hrl]; exact HU.out)
      obtain ⟨⟨x0, x1, x2, x3, x4, x5, x6, x7⟩, ⟨xf0, xf1, xf2, xf3, xf4, xf5, xf6, xf7⟩, xl⟩ := bx8f HX2.out
      have hr1 : w.heap.size < w1.heap.size := heap_lt HR0.out
      have hz5 := (HB.out.block _ hr1).trans HR0.out
      obtain ⟨hz, -, hzb⟩ := bx8_set (.int .i64 a0) (.int .i64 a1) (.int .i64 a2) (.int .i64 a3) (.int .i64 a4) (.int .i64 a5) (.int .i64 a6) (.int .i64 a7) hz5
      have HNN := Lib.hid (box8T hz).1
      have HZB := Lib.hid (hzb w.heap.size (Nat.le_refl _))
      have HBF := Lib.hid (HA.out.trans (HB.out.mono (Nat.le_of_lt hr1)))
      obtain ⟨⟨z0, z1, z2, z3, z4, z5, z6, z7⟩, ⟨zf0, zf1, zf2, zf3, zf4, zf5, zf6, zf7⟩, zl⟩ := bx8f hz5
      clear hz hzb hz5
      go_wp2_with fail
      obtain ⟨n0, n1, n2, n3, n4, n5, n6, n7⟩ := HNN.out
      refine bodyPost_ret (v := .agg #[.int .i64 a0, .int .i64 a1, .int .i64 a2, .int .i64 a3, .int .i64 a4, .int .i64 a5, .int .i64 a6, .int .i64 a7]) (by simp [results, Tryz.results34, go_sem, n0, n1, n2, n3, n4, n5, n6, n7]) rfl ?_
      exact ⟨n, a0, a1, a2, a3, a4, a5, a6, a7, rfl, by rw [← HX.out]; exact HK.out, HI.out, HBF.out.trans HZB.out⟩
end Go.Proofs.YtgmppfhokfifgaaGreatDoor
/-
  Contracts: the program's ReadOp. Printed by gen_txf.py.
-/
namespace Go.Proofs.YtgmppfhokfifgaaGreatDoor
set_option maxRecDepth 10000
open Go.RowKit Go.Sort
set_option linter.unusedSimpArgs false

theorem mem_size {c : UInt8} {s : ByteArray} {ws : List ByteArray} (h : IsSp c s.data.toList (bl_ ws)) {x : ByteArray} (hx : x ∈ ws) : x.size ≤ s.size := by
  obtain ⟨k, hk, rfl⟩ := List.mem_iff_getElem.1 hx
  rw [← gs_eq hk]
  exact gs_size h hk
set_option maxRecDepth 100000 in
set_option maxHeartbeats 6400000 in
theorem impl_ReadOp_any (s : ByteArray) {w : World} (hs : s.size ≤ 1048576) (hd : Dw w) (hw : Sw w) :
    Calls Tryz.prog 15 #[.string s] w fun e w' => ∃ a0 a1 a2 a3 a4 a5 a6 a7 b, e = .returned (.tuple #[.agg #[.int .i64 a0, .int .i64 a1, .int .i64 a2, .int .i64 a3, .int .i64 a4, .int .i64 a5, .int .i64 a6, .int .i64 a7], .bool b]) ∧ RdRT s [a0, a1, a2, a3, a4, a5, a6, a7] b ∧ Below w.heap.size w w' := by
  have HB0 := Lib.hid (al1 w (.cells #[.int .i64 0, .int .i64 0, .int .i64 0, .int .i64 0, .int .i64 0, .int .i64 0, .int .i64 0, .int .i64 0] 38))
  have HX0 := Lib.hid (alloc_at_ w (.cells #[.int .i64 0, .int .i64 0, .int .i64 0, .int .i64 0, .int .i64 0, .int .i64 0, .int .i64 0, .int .i64 0] 38))
  have HD := Lib.hid hd
  have HW := Lib.hid (hw.below (al1 w (.cells #[.int .i64 0, .int .i64 0, .int .i64 0, .int .i64 0, .int .i64 0, .int .i64 0, .int .i64 0, .int .i64 0] 38)))
  clear hd hw
  go_enter Tryz.func15, Tryz.ntmps15
  go_wp2_with fail
  refine (SplitWords_any s hs HW.out).mono ?_
  rintro e w1 ⟨v, ps, rfl, hsp, hlen, hv, hq⟩
  have HSP := Lib.hid hsp
  have HB1 := Lib.hid (HB0.out.trans (hq.mono (by simp)))
  have HX1 := Lib.hid (keep_fwd hq HX0.out)
  obtain ⟨us, hus⟩ : ∃ us, us = ps.filter keepW := ⟨_, rfl⟩
  rw [← hus] at hv
  have HUS := Lib.hid hus
  have hul : us.length ≤ 1048577 := by
    have := List.length_filter_le keepW ps
    rw [← hus] at this
    omega
  have HGS : Hid (∀ k, k < us.length → (gs us k).size ≤ 1048576) := Lib.hid fun k hk => by
    have h1 := gs_mem hk
    rw [HUS.out] at h1
    have h2 := mem_size HSP.out (List.mem_filter.1 h1).1
    rw [← HUS.out] at h2
    omega
  have HV := Lib.hid hv
  obtain ⟨g, off, c, hve, hg, hlc, hcm, -⟩ := hv
  subst hve
  obtain ⟨⟨z0, z1, z2, z3, z4, z5, z6, z7⟩, ⟨zf0, zf1, zf2, zf3, zf4, zf5, zf6, zf7⟩, zl⟩ := bx8f HX1.out
  clear hsp hq hus HX0 HB0
  by_cases h0 : us.length = 0
  · have h0I : ((us.length : Nat) : Int) = 0 := by omega
    have HRD := Lib.hid (rd_imp0 HSP.out (by rw [← HUS.out]; exact .inl h0))
    obtain ⟨hz, -, hzb⟩ := bx8_set (.int .i64 0) (.int .i64 0) (.int .i64 0) (.int .i64 0) (.int .i64 0) (.int .i64 0) (.int .i64 0) (.int .i64 0) (HX1.out)
    have HNN := Lib.hid (box8T hz).1
    have HZB := Lib.hid (hzb w.heap.size (Nat.le_refl _))
    have HBF := Lib.hid (HB1.out)
    clear hz hzb
    go_wp2_with fail
    obtain ⟨n0, n1, n2, n3, n4, n5, n6, n7⟩ := HNN.out
    refine bodyPost_ret (v := .tuple #[.agg #[.int .i64 0, .int .i64 0, .int .i64 0, .int .i64 0, .int .i64 0, .int .i64 0, .int .i64 0, .int .i64 0], .bool false]) (by simp [results, Tryz.results15, go_sem, n0, n1, n2, n3, n4, n5, n6, n7]) rfl ?_
    exact ⟨0, 0, 0, 0, 0, 0, 0, 0, false, rfl, HRD.out, HBF.out.trans HZB.out⟩
  · by_cases h5 : 5 < us.length
    · have h0I : ¬ (((us.length : Nat) : Int) = 0) := by omega
      have h5I : (5 : Int) < (us.length : Int) := by omega
      have HRD := Lib.hid (rd_imp0 HSP.out (by rw [← HUS.out]; exact .inr h5))
      obtain ⟨hz, -, hzb⟩ := bx8_set (.int .i64 0) (.int .i64 0) (.int .i64 0) (.int .i64 0) (.int .i64 0) (.int .i64 0) (.int .i64 0) (.int .i64 0) (HX1.out)
      have HNN := Lib.hid (box8T hz).1
      have HZB := Lib.hid (hzb w.heap.size (Nat.le_refl _))
      have HBF := Lib.hid (HB1.out)
      clear hz hzb
      go_wp2_with fail
      obtain ⟨n0, n1, n2, n3, n4, n5, n6, n7⟩ := HNN.out
      refine bodyPost_ret (v := .tuple #[.agg #[.int .i64 0, .int .i64 0, .int .i64 0, .int .i64 0, .int .i64 0, .int .i64 0, .int .i64 0, .int .i64 0], .bool false]) (by simp [results, Tryz.results15, go_sem, n0, n1, n2, n3, n4, n5, n6, n7]) rfl ?_
      exact ⟨0, 0, 0, 0, 0, 0, 0, 0, false, rfl, HRD.out, HBF.out.trans HZB.out⟩
    · have h0I : ¬ (((us.length : Nat) : Int) = 0) := by omega
      have h5I : ¬ ((5 : Int) < (us.length : Int)) := by omega
      have HD1 := Lib.hid (HD.out.below HB1.out)
      clear z0 z1 z2 z3 z4 z5 z6 z7 zf0 zf1 zf2 zf3 zf4 zf5 zf6 zf7 zl
      go_wp2_with fail
      refine (opOf_any HV.out (by omega) (by omega) HGS.out HD1.out).mono ?_
      rintro e w2 ⟨n, a0, a1, a2, a3, a4, a5, a6, a7, rfl, hk, ho, hq⟩
      have HRD := Lib.hid (rd_imp HUS.out hk HSP.out ho rfl)
      have hb2 : Below w.heap.size w (w2.alloc (.cells #[.int .i64 a0, .int .i64 a1, .int .i64 a2, .int .i64 a3, .int .i64 a4, .int .i64 a5, .int .i64 a6, .int .i64 a7] 38)) := HB1.out.trans ((hq.mono HB1.out.size).trans ((al1 w2 _).mono (Nat.le_trans HB1.out.size hq.size)))
      have hx2 := keep_fwd (al1 w2 (.cells #[.int .i64 a0, .int .i64 a1, .int .i64 a2, .int .i64 a3, .int .i64 a4, .int .i64 a5, .int .i64 a6, .int .i64 a7] 38)) (keep_fwd hq HX1.out)
      have hy2 := alloc_at_ w2 (.cells #[.int .i64 a0, .int .i64 a1, .int .i64 a2, .int .i64 a3, .int .i64 a4, .int .i64 a5, .int .i64 a6, .int .i64 a7] 38)
      have HB2 := Lib.hid hb2
      have HX2 := Lib.hid hx2
      have HY2 := Lib.hid hy2
      have HVA := Lib.hid (fun W : World => impl_ValidOp_any a0 a1 a2 a3 a4 a5 a6 a7 W)
      have HT := Lib.hid HD.out.tab
      clear hk ho hq hb2 hx2 hy2 HV HGS HD1
      cases hvo : vOp a0 a1 a2 a3 a4 a5 a6 a7
      · rw [hvo] at HVA
        have HRD2 := Lib.hid (HRD.out.2 (.inl hvo))
        clear hvo HRD
        go_wp2_with fail
        refine (HVA.out _).mono ?_
        rintro e w3 ⟨rfl, hq⟩
        have HB3 := Lib.hid (HB2.out.trans (hq.mono HB2.out.size))
        have HX3 := Lib.hid (keep_fwd hq HX2.out)
        obtain ⟨⟨z0, z1, z2, z3, z4, z5, z6, z7⟩, ⟨zf0, zf1, zf2, zf3, zf4, zf5, zf6, zf7⟩, zl⟩ := bx8f (HX3.out)
        clear hq
        obtain ⟨hz, -, hzb⟩ := bx8_set (.int .i64 0) (.int .i64 0) (.int .i64 0) (.int .i64 0) (.int .i64 0) (.int .i64 0) (.int .i64 0) (.int .i64 0) (HX3.out)
        have HNN := Lib.hid (box8T hz).1
        have HZB := Lib.hid (hzb w.heap.size (Nat.le_refl _))
        have HBF := Lib.hid (HB3.out)
        clear hz hzb
        go_wp2_with fail
        obtain ⟨n0, n1, n2, n3, n4, n5, n6, n7⟩ := HNN.out
        refine bodyPost_ret (v := .tuple #[.agg #[.int .i64 0, .int .i64 0, .int .i64 0, .int .i64 0, .int .i64 0, .int .i64 0, .int .i64 0, .int .i64 0], .bool false]) (by simp [results, Tryz.results15, go_sem, n0, n1, n2, n3, n4, n5, n6, n7]) rfl ?_
        exact ⟨0, 0, 0, 0, 0, 0, 0, 0, false, rfl, HRD2.out, HBF.out.trans HZB.out⟩
      · by_cases hst : opTx a0 a1 a2 a3 a4 a5 a6 a7 = s
        · have HRD2 := Lib.hid (HRD.out.1 ⟨hvo, hst⟩)
          have hcmp := str_yes hst
          have HOT := Lib.hid (fun (W : World) (hW : Tab W) => opText_any hvo hW)
          rw [hvo] at HVA
          clear hvo hst HRD
          go_wp2_with fail
          refine (HVA.out _).mono ?_
          rintro e w3 ⟨rfl, hq⟩
          have HB3 := Lib.hid (HB2.out.trans (hq.mono HB2.out.size))
          have HX3 := Lib.hid (keep_fwd hq HX2.out)
          have HY3 := Lib.hid (keep_fwd hq HY2.out)
          obtain ⟨⟨y0, y1, y2, y3, y4, y5, y6, y7⟩, ⟨yf0, yf1, yf2, yf3, yf4, yf5, yf6, yf7⟩, yl⟩ := bx8f (HY3.out)
          clear hq
          go_wp2_with fail
          clear y0 y1 y2 y3 y4 y5 y6 y7 yf0 yf1 yf2 yf3 yf4 yf5 yf6 yf7 yl
          refine (HOT.out _ (HT.out.below HB3.out)).mono ?_
          rintro e w4 ⟨rfl, hq⟩
          have HB4 := Lib.hid (HB3.out.trans (hq.mono HB3.out.size))
          have HX4 := Lib.hid (keep_fwd hq HX3.out)
          obtain ⟨⟨z0, z1, z2, z3, z4, z5, z6, z7⟩, ⟨zf0, zf1, zf2, zf3, zf4, zf5, zf6, zf7⟩, zl⟩ := bx8f (HX4.out)
          obtain ⟨⟨y0, y1, y2, y3, y4, y5, y6, y7⟩, ⟨yf0, yf1, yf2, yf3, yf4, yf5, yf6, yf7⟩, yl⟩ := bx8f (keep_fwd hq HY3.out)
          clear hq
          obtain ⟨hz, -, hzb⟩ := bx8_set (.int .i64 a0) (.int .i64 a1) (.int .i64 a2) (.int .i64 a3) (.int .i64 a4) (.int .i64 a5) (.int .i64 a6) (.int .i64 a7) (HX4.out)
          have HNN := Lib.hid (box8T hz).1
          have HZB := Lib.hid (hzb w.heap.size (Nat.le_refl _))
          have HBF := Lib.hid (HB4.out)
          clear hz hzb
          go_wp2_with fail
          obtain ⟨n0, n1, n2, n3, n4, n5, n6, n7⟩ := HNN.out
          refine bodyPost_ret (v := .tuple #[.agg #[.int .i64 a0, .int .i64 a1, .int .i64 a2, .int .i64 a3, .int .i64 a4, .int .i64 a5, .int .i64 a6, .int .i64 a7], .bool true]) (by simp [results, Tryz.results15, go_sem, n0, n1, n2, n3, n4, n5, n6, n7]) rfl ?_
          exact ⟨a0, a1, a2, a3, a4, a5, a6, a7, true, rfl, HRD2.out, HBF.out.trans HZB.out⟩
        · have HRD2 := Lib.hid (HRD.out.2 (.inr hst))
          have hcmp := str_no hst
          have HOT := Lib.hid (fun (W : World) (hW : Tab W) => opText_any hvo hW)
          rw [hvo] at HVA
          clear hvo hst HRD
          go_wp2_with fail
          refine (HVA.out _).mono ?_
          rintro e w3 ⟨rfl, hq⟩
          have HB3 := Lib.hid (HB2.out.trans (hq.mono HB2.out.size))
          have HX3 := Lib.hid (keep_fwd hq HX2.out)
          have HY3 := Lib.hid (keep_fwd hq HY2.out)
          obtain ⟨⟨y0, y1, y2, y3, y4, y5, y6, y7⟩, ⟨yf0, yf1, yf2, yf3, yf4, yf5, yf6, yf7⟩, yl⟩ := bx8f (HY3.out)
          clear hq
          go_wp2_with fail
          clear y0 y1 y2 y3 y4 y5 y6 y7 yf0 yf1 yf2 yf3 yf4 yf5 yf6 yf7 yl
          refine (HOT.out _ (HT.out.below HB3.out)).mono ?_
          rintro e w4 ⟨rfl, hq⟩
          have HB4 := Lib.hid (HB3.out.trans (hq.mono HB3.out.size))
          have HX4 := Lib.hid (keep_fwd hq HX3.out)
          obtain ⟨⟨z0, z1, z2, z3, z4, z5, z6, z7⟩, ⟨zf0, zf1, zf2, zf3, zf4, zf5, zf6, zf7⟩, zl⟩ := bx8f (HX4.out)
          clear hq
          obtain ⟨hz, -, hzb⟩ := bx8_set (.int .i64 0) (.int .i64 0) (.int .i64 0) (.int .i64 0) (.int .i64 0) (.int .i64 0) (.int .i64 0) (.int .i64 0) (HX4.out)
          have HNN := Lib.hid (box8T hz).1
          have HZB := Lib.hid (hzb w.heap.size (Nat.le_refl _))
          have HBF := Lib.hid (HB4.out)
          clear hz hzb
          go_wp2_with fail
          obtain ⟨n0, n1, n2, n3, n4, n5, n6, n7⟩ := HNN.out
          refine bodyPost_ret (v := .tuple #[.agg #[.int .i64 0, .int .i64 0, .int .i64 0, .int .i64 0, .int .i64 0, .int .i64 0, .int .i64 0, .int .i64 0], .bool false]) (by simp [results, Tryz.results15, go_sem, n0, n1, n2, n3, n4, n5, n6, n7]) rfl ?_
          exact ⟨0, 0, 0, 0, 0, 0, 0, 0, false, rfl, HRD2.out, HBF.out.trans HZB.out⟩
end Go.Proofs.YtgmppfhokfifgaaGreatDoor
