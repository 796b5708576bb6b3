/-
  Contracts: the program's SplitWords (strings.Split and slices.DeleteFunc); pieces between bytes (plain).
-/
import Derived.Test.YtgmppfhokfifgaaGreatDoorTxa
import Derived.Test.YtgmppfhokfifgaaGreatDoorSsp
import Derived.Test.YtgmppfhokfifgaaGreatDoorSdf
import Derived.Shelf.SlicesE.DeleteFunc
namespace Go.Proofs.YtgmppfhokfifgaaGreatDoor
set_option maxRecDepth 10000
open Go.RowKit Go.Sort
set_option linter.unusedSimpArgs false

/-- strings.Split at one byte. -/
theorem splitK_sp (c : UInt8) : ∀ (k : Nat) (s : List UInt8), Lib.count s [c] = k → IsSp c s (Lib.splitK [c] 0 k s)
  | 0, s, h => by
    rw [Lib.count_one] at h
    refine ⟨by simp [Lib.splitK], fun x hx => ?_, by simp [Lib.splitK]⟩
    simp only [Lib.splitK, List.mem_singleton] at hx
    subst hx
    exact List.count_eq_zero.1 h
  | k + 1, s, h => by
    obtain ⟨i, hi⟩ := Lib.index_of_count (s := s) (old := [c]) (by omega)
    have hm : ¬ (Lib.index s [c] == -1) = true := fun e => by have := beq_iff_eq.1 e; omega
    have hc := Lib.count_hit (s := s) (sub := [c]) (by simp) hi
    have h1 := hi
    rw [Lib.index_one] at h1
    obtain ⟨h2, h3⟩ := Lib.indexByte_some h1
    have hlt : i < s.length := by
      rw [List.getElem?_eq_some_iff] at h2
      exact h2.1
    have ih := splitK_sp c k (s.drop (i + 1)) (by simp only [List.length_singleton] at hc; omega)
    have e : Lib.splitK [c] 0 (k + 1) s = s.take i :: Lib.splitK [c] 0 k (s.drop (i + 1)) := by
      rw [Lib.splitK, if_neg hm, hi]
      simp
    rw [e]
    refine ⟨by simp, fun x hx => ?_, ?_⟩
    · rcases List.mem_cons.1 hx with rfl | hx
      · intro q
        obtain ⟨j, hj⟩ := List.getElem?_of_mem q
        rw [List.getElem?_take] at hj
        split at hj
        · rename_i hji; exact h3 j hji hj
        · cases hj
      · exact ih.free x hx
    · rw [inter_cons _ ih.ne, ih.join]
      have h4 : s[i] = c := by rw [List.getElem?_eq_getElem hlt] at h2; exact Option.some.inj h2
      rw [← h4, ← List.drop_eq_getElem_cons hlt, List.take_append_drop]
theorem splitB_sp (c : UInt8) (s sep : ByteArray) (h : sep.data.toList = [c]) : IsSp c s.data.toList (bl_ (Lib.splitB sep 0 (Lib.countB s sep) s)) ∧ (Lib.splitB sep 0 (Lib.countB s sep) s).length = Lib.countB s sep + 1 ∧ Lib.countB s sep ≤ s.size := by
  have h1 : 1 ≤ sep.size := by rw [← tl_len_, h]; simp
  refine ⟨?_, Lib.splitB_all sep h1 0 _ s rfl, Lib.countB_le sep h1 _ s (Nat.le_refl _)⟩
  unfold bl_
  rw [Lib.splitB_data, h]
  exact splitK_sp c _ _ (by rw [← h])
def keepW (x : ByteArray) : Bool := !(x.toList.isEmpty)
theorem keepW_iff {x : ByteArray} : keepW x = true ↔ 0 < x.size := by
  unfold keepW
  rw [Bool.not_eq_true', ByteArray.toList_eq, ← tl_len_ x]
  generalize x.data.toList = l
  cases l <;> simp
/-- The world that strings.Split asks for. -/
def Sw (w : World) : Prop := ∃ m, w.cell? ⟨0, 0, none⟩ = some (.int .i64 m)
theorem Sw.below {w w' : World} (h : Sw w) (hb : Below w.heap.size w w') : Sw w' := by
  obtain ⟨m, hm⟩ := h
  exact ⟨m, by rw [hb.cell (block_lt_of_cell hm)]; exact hm⟩
theorem str_zero : ∀ w : World, (zeroValue 9).run Tryz.prog w = .ok (Value.string ByteArray.empty) w := Tryz.zeroValue9
theorem get_gs (d : List ByteArray) (j : Nat) (hj : j < d.length) : d.toArray[j]! = gs d j := by
  rw [getElem!_pos d.toArray j (by simpa using hj), gs_eq hj]; simp
theorem Words1_gives (x : ByteArray) (W : World) : FnGives Tryz.prog 57 #[] #[.string x] (.bool (!keepW x)) W := by
  show Calls Tryz.prog 57 #[.string x] W _
  have HK : Hid ((!keepW x) = x.toList.isEmpty) := Lib.hid (by unfold keepW; rw [Bool.not_not])
  go_enter Tryz.func57, Tryz.ntmps57
  go_wp2_with fail
  go_ret
  exact ⟨by rw [HK.out]; rfl, 0, rfl⟩
theorem DeleteEmpty_any {w : World} {g : Nat} {ps : List ByteArray} {c : Nat} (hx : w.heap[g]? = some (.cells ((ps.map Value.string).toArray) 9)) (hl : ps.length ≤ 1048577) (hc : ps.length ≤ c) (hcm : c ≤ maxLen) :
    Calls Tryz.prog 56 #[.slice (some ⟨g, 0, none⟩) ps.length c, .func (.func 57) #[] #[]] w fun e w' => ∃ v, e = .returned v ∧ SlW w' w'.heap.size v (ps.filter keepW) ∧ Below g w w' := by
  have eg : ∀ args w, (callFunc 57 args).run Tryz.prog w = .ok (.enter 57 args) w := enters_of Tryz.func57 (by kernel_rfl) rfl
  have hcell : ∀ j, j < ps.length → w.cell? ⟨g, j, none⟩ = some (.string (gs ps j)) := fun j hj => (cell_of_row w g j _ 9 (0, 0) hx).trans (by rw [gs_eq hj]; simp [hj])
  have hH : Holds Value.string w g 0 ps.toArray := fun j hj => by
    have hj' : j < ps.length := by simpa using hj
    refine ⟨?_, by simp only [World.frozen?, hx]; simp⟩
    rw [get_gs _ _ hj', Nat.zero_add]
    exact hcell j hj'
  have hg : g < w.heap.size := heap_lt hx
  have hd := Tryz.slices_DeleteFunc Value.string (fun _ => rfl) (fun x => !keepW x) 57 #[] eg ByteArray.empty str_zero g 0 c ps.toArray w (fun W x _ => Words1_gives x W) (fun n os dk x _ => Words1_gives x _) hH (by simp; omega) (by simpa using hc)
  simp only [List.size_toArray, List.toList_toArray, Bool.not_not] at hd
  refine hd.mono ?_
  rintro e w' ⟨rfl, q, rfl⟩
  obtain ⟨rs, hrs⟩ : ∃ rs, rs = ps.filter keepW := ⟨_, rfl⟩
  have hrl : rs.length ≤ ps.length := by rw [hrs]; exact List.length_filter_le _ _
  have hsz : (rs ++ List.replicate (ps.length - rs.length) ByteArray.empty).toArray.size = ps.toArray.size := by simp; omega
  have hb := holds_putRow Value.string (Sort.ahead w q) g 0 ps.toArray (rs ++ List.replicate (ps.length - rs.length) ByteArray.empty).toArray hH hsz
  rw [show (ps.filter fun x => keepW x) = rs from hrs.symm]
  refine ⟨_, rfl, ⟨g, 0, c, rfl, ?_, by omega, hcm, fun k hk => ?_⟩, ?_⟩
  · rw [size_putRow]; exact hg
  · have h1 := (hb k (by rw [hsz]; simp; omega)).1
    rw [h1, get_gs _ _ (by simp; omega)]
    congr 2
    simp [gs, List.getD, List.getElem?_append_left hk]
  · refine ⟨rfl, rfl, rfl, by rw [size_putRow]; exact Nat.le_refl _, fun k hk => ?_⟩
    show ((w.heap.modify g _)[k]?) = w.heap[k]?
    rw [Array.getElem?_modify, if_neg (by omega)]
set_option maxHeartbeats 3200000 in
/-- The words of a text: its pieces between blanks that are not empty. -/
theorem SplitWords_any (s : ByteArray) {w : World} (hs : s.size ≤ 1048576) (hw : Sw w) :
    Calls Tryz.prog 33 #[.string s] w fun e w' => ∃ v ps, e = .returned v ∧ IsSp 32 s.data.toList (bl_ ps) ∧ ps.length ≤ s.size + 1 ∧ SlW w' w'.heap.size v (ps.filter keepW) ∧ Below w.heap.size w w' := by
  obtain ⟨m, hm⟩ := hw
  obtain ⟨h1, h2, h3⟩ := splitB_sp 32 s { data := #[32] } rfl
  obtain ⟨ps, hps⟩ : ∃ ps, ps = Lib.splitB { data := #[32] } 0 (Lib.countB s { data := #[32] }) s := ⟨_, rfl⟩
  have HS := Tryz.strings_Split s { data := #[32] } m w (by omega) hm (by decide)
  rw [← hps] at h1 h2 HS
  rw [← h2] at HS
  have HSP := Lib.hid HS
  have HIS := Lib.hid h1
  have hl : ps.length ≤ s.size + 1 := by omega
  clear HS h1 h2 h3 hps hm
  go_enter Tryz.func33, Tryz.ntmps33
  go_wp2_with fail
  refine HSP.out.mono ?_
  rintro e w1 ⟨rfl, rfl⟩
  go_wp2_with fail
  refine (DeleteEmpty_any (alloc_at_ w _) (by omega) (Nat.le_refl _) (by simp only [maxLen]; omega)).mono ?_
  rintro e w2 ⟨v, rfl, hv, hq⟩
  go_wp2_with fail
  go_ret
  exact ⟨v, ps, rfl, HIS.out, hl, hv, (al1 w _).trans hq⟩
end Go.Proofs.YtgmppfhokfifgaaGreatDoor
