/-
  Words of a text: slices of strings, pieces between bytes (plain laws), the reference's l01Split.
-/
import Derived.Test.YtgmppfhokfifgaaGreatDoorTxm
import Derived.Test.YtgmppfhokfifgaaGreatDoorOps8
namespace Go.Proofs.YtgmppfhokfifgaaGreatDoor
set_option maxRecDepth 10000
open Go.RowKit Go.Sort

/-- The string k of a list. -/
def gs (ws : List ByteArray) (k : Nat) : ByteArray := ws.getD k { data := #[] }
theorem gs_eq {ws : List ByteArray} {k : Nat} (h : k < ws.length) : gs ws k = ws[k] := by simp [gs, List.getD, h]
theorem gs_mem {ws : List ByteArray} {k : Nat} (h : k < ws.length) : gs ws k ∈ ws := by rw [gs_eq h]; exact List.getElem_mem h
/-- A slice of strings that is not nil; all lies below B. -/
def SlW (w : World) (B : Nat) (v : Value) (ws : List ByteArray) : Prop :=
  ∃ g off c, v = .slice (some ⟨g, off, none⟩) ws.length c ∧ g < B ∧ ws.length ≤ c ∧ c ≤ maxLen ∧ ∀ k, k < ws.length → w.cell? ⟨g, off + k, none⟩ = some (.string (gs ws k))
theorem SlW.below {w w' : World} {B B' : Nat} {v : Value} {ws : List ByteArray} (h : SlW w B v ws) (hb : Below B' w w') (hB : B ≤ B') : SlW w' B v ws := by
  obtain ⟨g, off, c, e, hg, h1, h2, h3⟩ := h
  exact ⟨g, off, c, e, hg, h1, h2, fun k hk => by rw [hb.cell (show g < B' by omega)]; exact h3 k hk⟩
def strV (ws : List ByteArray) : List Value := ws.map Value.string
theorem OwR.slW {w : World} {lo hi : Nat} {v : Value} {n : Nat} {ws : List ByteArray} (h : OwR 9 1 w lo hi v n (strV ws)) (h0 : 0 < ws.length) : SlW w hi v ws := by
  have hn : n = ws.length := by have := h.1.1; simp [strV] at this; omega
  subst hn
  rcases h.form with ⟨-, hb, -⟩ | ⟨g, cap, rfl, -, hg, hc, hm, -, hcl⟩
  · omega
  · exact ⟨g, 0, cap, rfl, hg, hc, by simp only [maxLen]; omega, fun k hk => by rw [Nat.zero_add]; exact hcl k _ (by rw [gs_eq hk]; simp [strV, hk])⟩
/-- s is cut into the pieces ws at the bytes c. -/
structure IsSp (c : UInt8) (s : List UInt8) (ws : List (List UInt8)) : Prop where
  ne : ws ≠ []
  free : ∀ x ∈ ws, c ∉ x
  join : [c].intercalate ws = s
theorem inter_cons {c : UInt8} (a : List UInt8) {ws : List (List UInt8)} (h : ws ≠ []) : [c].intercalate (a :: ws) = a ++ c :: [c].intercalate ws := by
  cases ws with
  | nil => exact absurd rfl h
  | cons b r => simp [List.intercalate]
theorem inter_one {c : UInt8} (a : List UInt8) : [c].intercalate [a] = a := by simp [List.intercalate]
theorem inter_snoc {c : UInt8} (ws : List (List UInt8)) (y : List UInt8) (h : ws ≠ []) : [c].intercalate (ws ++ [y]) = [c].intercalate ws ++ c :: y := by
  induction ws with
  | nil => exact absurd rfl h
  | cons x r ih =>
    cases r with
    | nil => rw [List.singleton_append, inter_cons _ (by simp), inter_one, inter_one]
    | cons z r =>
      have := ih (by simp)
      rw [inter_cons x (ws := z :: r) (by simp), List.cons_append, inter_cons x (ws := z :: r ++ [y]) (by simp), this]
      simp
theorem free_split {c : UInt8} : ∀ {a b x y : List UInt8}, c ∉ a → c ∉ b → a ++ c :: x = b ++ c :: y → a = b ∧ x = y
  | [], [], x, y, _, _, h => ⟨rfl, (List.cons.inj h).2⟩
  | [], z :: b, x, y, _, hb, h => by
    have := (List.cons.inj h).1
    exact absurd (by rw [this]; simp) hb
  | z :: a, [], x, y, ha, _, h => by
    have := (List.cons.inj h).1
    exact absurd (by rw [← this]; simp) ha
  | z :: a, u :: b, x, y, ha, hb, h => by
    obtain ⟨h1, h2⟩ := List.cons.inj h
    obtain ⟨h3, h4⟩ := free_split (fun q => ha (List.mem_cons_of_mem _ q)) (fun q => hb (List.mem_cons_of_mem _ q)) h2
    exact ⟨by rw [h1, h3], h4⟩
theorem IsSp.unique {c : UInt8} : ∀ {ws vs : List (List UInt8)} {s : List UInt8}, IsSp c s ws → IsSp c s vs → ws = vs
  | [], _, _, h, _ => absurd rfl h.ne
  | _, [], _, _, h => absurd rfl h.ne
  | [a], [b], s, h, k => by
    have h1 := h.join
    have h2 := k.join
    rw [inter_one] at h1 h2
    rw [h1, h2]
  | [a], b :: z :: r, s, h, k => by
    have h1 := h.join
    have h2 := k.join
    rw [inter_one] at h1
    rw [inter_cons _ (by simp)] at h2
    exact absurd (by rw [h1, ← h2]; simp) (h.free a (by simp))
  | a :: z :: r, [b], s, h, k => by
    have h1 := h.join
    have h2 := k.join
    rw [inter_one] at h2
    rw [inter_cons _ (by simp)] at h1
    exact absurd (by rw [h2, ← h1]; simp) (k.free b (by simp))
  | a :: z :: r, b :: u :: t, s, h, k => by
    have h1 := h.join
    have h2 := k.join
    rw [inter_cons _ (by simp)] at h1 h2
    obtain ⟨h3, h4⟩ := free_split (h.free a (by simp)) (k.free b (by simp)) (h1.trans h2.symm)
    have h5 : IsSp c ([c].intercalate (z :: r)) (z :: r) := ⟨by simp, fun x hx => h.free x (List.mem_cons_of_mem _ hx), rfl⟩
    have h6 : IsSp c ([c].intercalate (z :: r)) (u :: t) := ⟨by simp, fun x hx => k.free x (List.mem_cons_of_mem _ hx), h4.symm⟩
    rw [h3, h5.unique h6]
def bl_ (ws : List ByteArray) : List (List UInt8) := ws.map (·.data.toList)
theorem bl_inj {a b : List ByteArray} (h : bl_ a = bl_ b) : a = b := by
  induction a generalizing b with
  | nil => cases b with
    | nil => rfl
    | cons y r => simp [bl_] at h
  | cons x l ih => cases b with
    | nil => simp [bl_] at h
    | cons y r =>
      simp only [bl_, List.map_cons, List.cons.injEq] at h
      rw [ba_ext h.1, ih h.2]
/-- The pieces so far: ws, and what has been read of the next one. -/
structure SpT (c : UInt8) (L : List UInt8) (ws : List ByteArray) (fr k : Nat) : Prop where
  le : fr ≤ k
  free : ∀ x ∈ bl_ ws, c ∉ x
  cur : c ∉ (L.take k).drop fr
  join : [c].intercalate (bl_ ws ++ [(L.take k).drop fr]) = L.take k
  len : ws.length ≤ k
theorem SpT.start (c : UInt8) (L : List UInt8) : SpT c L [] 0 0 := ⟨Nat.le_refl _, by simp [bl_], by simp, by simp [bl_, List.intercalate], Nat.le_refl _⟩
theorem bl_snoc (ws : List ByteArray) (x : ByteArray) : bl_ (ws ++ [x]) = bl_ ws ++ [x.data.toList] := by simp [bl_]
theorem inter_last {c : UInt8} (ws : List (List UInt8)) (x y : List UInt8) : [c].intercalate (ws ++ [x ++ y]) = [c].intercalate (ws ++ [x]) ++ y := by
  cases ws with
  | nil => rw [List.nil_append, List.nil_append, inter_one, inter_one]
  | cons a r => rw [inter_snoc _ _ (by simp), inter_snoc _ _ (by simp)]; simp
theorem SpT.go {c : UInt8} {s : ByteArray} {ws : List ByteArray} {fr k : Nat} (h : SpT c s.data.toList ws fr k) (hk : k < s.size) (hc : s[k] ≠ c) : SpT c s.data.toList ws fr (k + 1) := by
  have hle := h.le
  have hl : (s.data.toList.take k).length = k := by rw [List.length_take, tl_len_]; omega
  have e : (s.data.toList.take (k + 1)).drop fr = (s.data.toList.take k).drop fr ++ [s[k]] := by
    rw [tk_succ hk, List.drop_append_of_le_length (by omega)]
  refine ⟨by omega, h.free, ?_, ?_, by have := h.len; omega⟩
  · rw [e, List.mem_append]
    rintro (q | q)
    · exact h.cur q
    · simp only [List.mem_singleton] at q; exact hc q.symm
  · rw [e, inter_last, h.join, tk_succ hk]
theorem SpT.cut {c : UInt8} {s : ByteArray} {ws : List ByteArray} {fr k : Nat} (h : SpT c s.data.toList ws fr k) (hk : k < s.size) (hc : s[k] = c) : SpT c s.data.toList (ws ++ [s.extract fr k]) (k + 1) (k + 1) := by
  have hl : (s.data.toList.take (k + 1)).length = k + 1 := by rw [List.length_take, tl_len_]; omega
  have e0 : (s.data.toList.take (k + 1)).drop (k + 1) = [] := List.drop_eq_nil_of_le (by omega)
  have e1 : (s.extract fr k).data.toList = (s.data.toList.take k).drop fr := by
    rw [ByteArray.data_extract, Array.toList_extract, List.extract_eq_take_drop, List.drop_take]
  refine ⟨Nat.le_refl _, ?_, by rw [e0]; simp, ?_, by rw [List.length_append]; have := h.len; simp; omega⟩
  · intro x hx
    rw [bl_snoc, List.mem_append] at hx
    rcases hx with q | q
    · exact h.free x q
    · simp only [List.mem_singleton] at q; subst q; rw [e1]; exact h.cur
  · rw [e0, bl_snoc, e1, inter_snoc _ _ (by simp), h.join, tk_succ hk, hc]
theorem SpT.fin {c : UInt8} {s : ByteArray} {ws : List ByteArray} {fr : Nat} (h : SpT c s.data.toList ws fr s.size) : IsSp c s.data.toList (bl_ (ws ++ [s.extract fr s.size])) := by
  have e0 : s.data.toList.take s.size = s.data.toList := List.take_of_length_le (by rw [tl_len_]; exact Nat.le_refl _)
  have e1 : (s.extract fr s.size).data.toList = (s.data.toList.take s.size).drop fr := by
    rw [ByteArray.data_extract, Array.toList_extract, List.extract_eq_take_drop, List.drop_take]
  refine ⟨by simp [bl_], ?_, ?_⟩
  · intro x hx
    rw [bl_snoc, List.mem_append] at hx
    rcases hx with q | q
    · exact h.free x q
    · simp only [List.mem_singleton] at q; subst q; rw [e1]; exact h.cur
  · rw [bl_snoc, e1, h.join, e0]
theorem strV_snoc (ws : List ByteArray) (x : ByteArray) : strV (ws ++ [x]) = strV ws ++ [.string x] := by simp [strV]
set_option maxHeartbeats 6400000 in
theorem l01Split_any (s : ByteArray) (c : UInt8) (ci : Int) (hci : ci = (c.toNat : Int)) (w : World) (hs : s.size ≤ 1048576) :
    Calls Tryz.prog 19 #[.string s, .int .u8 ci] w fun e w' => ∃ v ws, e = .returned v ∧ IsSp c s.data.toList (bl_ ws) ∧ ws.length ≤ s.size + 1 ∧ SlW w' w'.heap.size v ws ∧ Below w.heap.size w w' := by
  have HCI := Lib.hid hci
  clear hci
  go_enter Tryz.func19, Tryz.ntmps19
  go_wp2_with fail
  go_loopw [5, 6, 7] (fun v f i wr => ∃ (k fr : Nat) (ws : List ByteArray), k ≤ s.size ∧ f = .int .i64 fr ∧ i = .int .i64 k ∧ OwR 9 1 wr w.heap.size wr.heap.size v ws.length (strV ws) ∧ Below w.heap.size w wr ∧ SpT c s.data.toList ws fr k) (fun _ _ i _ => s.size - (intOf i).toNat)
  case atStart => exact ⟨0, 0, [], Nat.zero_le _, rfl, rfl, OwR.empty _ _ _, al1 _ _, SpT.start _ _⟩
  case round =>
    obtain ⟨k, fr, ws, hk, rfl, rfl, hO, hb, hS⟩ := hrel
    have HO := Lib.hid hO
    have HB := Lib.hid hb
    have HS := Lib.hid hS
    have hle := hS.le
    have hlen := hS.len
    have hzr := hb.size
    have hleI : (fr : Int) ≤ (k : Int) := by omega
    have hkI : (k : Int) ≤ (s.size : Int) := by omega
    clear hO hb hS
    by_cases hlt : k < s.size
    · have hltI : (k : Int) < (s.size : Int) := by omega
      by_cases hc : s[k] = c
      · have HS2 := Lib.hid (HS.out.cut hlt hc)
        have hcc : ((s[k].toNat : Int) == ci) = true := by rw [HCI.out, hc]; simp
        clear hc
        go_wp2_with (at_builtin; refine wpList_append_elem Tryz.underlying46 str_info rfl (by decide) (by decide) rfl (.tmp 20) (.tmp 25) rfl wr _ _ _ _ _ [.string (s.extract fr k)] rfl rfl HO.out hzr (by omega) rfl (by simp [Value.oneCell']) ?_; intro v2 w2 hO2 hg2 _)
        rw [← strV_snoc] at hO2
        have HB2 := Lib.hid (HB.out.trans (HO.out.grown hg2 (Nat.le_refl _) hzr))
        go_roundw
        case rel => exact ⟨k + 1, k + 1, ws ++ [s.extract fr k], by omega, by go_num, by go_num, by rw [List.length_append]; exact hO2, HB2.out, HS2.out⟩
        case measure => simp [intOf]; omega
      · have HS2 := Lib.hid (HS.out.go hlt hc)
        have hcc : ((s[k].toNat : Int) == ci) = false := by
          rw [beq_eq_false_iff_ne, HCI.out]
          intro q
          exact hc (UInt8.toNat_inj.1 (by omega))
        clear hc
        go_wp2_with fail
        go_roundw
        case rel => exact ⟨k + 1, fr, ws, by omega, rfl, by go_num, HO.out, HB.out, HS2.out⟩
        case measure => simp [intOf]; omega
    · obtain rfl : k = s.size := by omega
      go_wp2_with (at_builtin; refine wpList_append_elem Tryz.underlying46 str_info rfl (by decide) (by decide) rfl (.tmp 29) (.tmp 33) rfl wr _ _ _ _ _ [.string (s.extract fr s.size)] rfl rfl HO.out hzr (by omega) rfl (by simp [Value.oneCell']) ?_; intro v2 w2 hO2 hg2 _)
      rw [← strV_snoc] at hO2
      go_ret
      exact ⟨v2, ws ++ [s.extract fr s.size], rfl, HS.out.fin, by rw [List.length_append]; simp; omega, hO2.slW (by simp), HB.out.trans (HO.out.grown hg2 (Nat.le_refl _) hzr)⟩
end Go.Proofs.YtgmppfhokfifgaaGreatDoor
