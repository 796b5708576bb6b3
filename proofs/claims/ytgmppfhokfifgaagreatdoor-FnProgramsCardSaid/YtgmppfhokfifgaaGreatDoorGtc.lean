/-
  Words of a text: slices of strings, pieces between bytes (plain laws), the reference's l01Split.
-/
import Derived.Test.YtgmppfhokfifgaaGreatDoorTxm
import Derived.Test.YtgmppfhokfifgaaGreatDoorOpt
import Derived.Test.YtgmppfhokfifgaaGreatDoorOps
import Derived.Test.YtgmppfhokfifgaaGreatDoorTxq
namespace Go.Proofs.YtgmppfhokfifgaaGreatDoor
set_option maxRecDepth 10000
open Go.RowKit Go.Sort

/-- The string k of a list. -/
def gs (ws : List ByteArray) (k : Nat) : ByteArray := ws.getD k { data := #[] }
theorem gs_eq {ws : List ByteArray} {k : Nat} (h : k < ws.length) : gs ws k = ws[k] := by simp [gs, List.getD, h]
theorem gs_mem {ws : List ByteArray} {k : Nat} (h : k < ws.length) : gs ws k ∈ ws := by rw [gs_eq h]; exact List.getElem_mem h
/-- A slice of strings that is not nil; all lies below B. -/
def SlW (w : World) (B : Nat) (v : Value) (ws : List ByteArray) : Prop :=
  ∃ g off c, v = .slice (some ⟨g, off, none⟩) ws.length c ∧ g < B ∧ ws.length ≤ c ∧ c ≤ maxLen ∧ ∀ k, k < ws.length → w.cell? ⟨g, off + k, none⟩ = some (.string (gs ws k))
theorem SlW.below {w w' : World} {B B' : Nat} {v : Value} {ws : List ByteArray} (h : SlW w B v ws) (hb : Below B' w w') (hB : B ≤ B') : SlW w' B v ws := by
  obtain ⟨g, off, c, e, hg, h1, h2, h3⟩ := h
  exact ⟨g, off, c, e, hg, h1, h2, fun k hk => by rw [hb.cell (show g < B' by omega)]; exact h3 k hk⟩
/-- s is cut into the pieces ws at the bytes c. -/
structure IsSp (c : UInt8) (s : List UInt8) (ws : List (List UInt8)) : Prop where
  ne : ws ≠ []
  free : ∀ x ∈ ws, c ∉ x
  join : [c].intercalate ws = s
theorem inter_cons {c : UInt8} (a : List UInt8) {ws : List (List UInt8)} (h : ws ≠ []) : [c].intercalate (a :: ws) = a ++ c :: [c].intercalate ws := by
  cases ws with
  | nil => exact absurd rfl h
  | cons b r => simp [List.intercalate]
theorem inter_one {c : UInt8} (a : List UInt8) : [c].intercalate [a] = a := by simp [List.intercalate]
theorem inter_snoc {c : UInt8} (ws : List (List UInt8)) (y : List UInt8) (h : ws ≠ []) : [c].intercalate (ws ++ [y]) = [c].intercalate ws ++ c :: y := by
  induction ws with
  | nil => exact absurd rfl h
  | cons x r ih =>
    cases r with
    | nil => rw [List.singleton_append, inter_cons _ (by simp), inter_one, inter_one]
    | cons z r =>
      have := ih (by simp)
      rw [inter_cons x (ws := z :: r) (by simp), List.cons_append, inter_cons x (ws := z :: r ++ [y]) (by simp), this]
      simp
theorem free_split {c : UInt8} : ∀ {a b x y : List UInt8}, c ∉ a → c ∉ b → a ++ c :: x = b ++ c :: y → a = b ∧ x = y
  | [], [], x, y, _, _, h => ⟨rfl, (List.cons.inj h).2⟩
  | [], z :: b, x, y, _, hb, h => by
    have := (List.cons.inj h).1
    exact absurd (by rw [this]; simp) hb
  | z :: a, [], x, y, ha, _, h => by
    have := (List.cons.inj h).1
    exact absurd (by rw [← this]; simp) ha
  | z :: a, u :: b, x, y, ha, hb, h => by
    obtain ⟨h1, h2⟩ := List.cons.inj h
    obtain ⟨h3, h4⟩ := free_split (fun q => ha (List.mem_cons_of_mem _ q)) (fun q => hb (List.mem_cons_of_mem _ q)) h2
    exact ⟨by rw [h1, h3], h4⟩
theorem IsSp.unique {c : UInt8} : ∀ {ws vs : List (List UInt8)} {s : List UInt8}, IsSp c s ws → IsSp c s vs → ws = vs
  | [], _, _, h, _ => absurd rfl h.ne
  | _, [], _, _, h => absurd rfl h.ne
  | [a], [b], s, h, k => by
    have h1 := h.join
    have h2 := k.join
    rw [inter_one] at h1 h2
    rw [h1, h2]
  | [a], b :: z :: r, s, h, k => by
    have h1 := h.join
    have h2 := k.join
    rw [inter_one] at h1
    rw [inter_cons _ (by simp)] at h2
    exact absurd (by rw [h1, ← h2]; simp) (h.free a (by simp))
  | a :: z :: r, [b], s, h, k => by
    have h1 := h.join
    have h2 := k.join
    rw [inter_one] at h2
    rw [inter_cons _ (by simp)] at h1
    exact absurd (by rw [h2, ← h1]; simp) (k.free b (by simp))
  | a :: z :: r, b :: u :: t, s, h, k => by
    have h1 := h.join
    have h2 := k.join
    rw [inter_cons _ (by simp)] at h1 h2
    obtain ⟨h3, h4⟩ := free_split (h.free a (by simp)) (k.free b (by simp)) (h1.trans h2.symm)
    have h5 : IsSp c ([c].intercalate (z :: r)) (z :: r) := ⟨by simp, fun x hx => h.free x (List.mem_cons_of_mem _ hx), rfl⟩
    have h6 : IsSp c ([c].intercalate (z :: r)) (u :: t) := ⟨by simp, fun x hx => k.free x (List.mem_cons_of_mem _ hx), h4.symm⟩
    rw [h3, h5.unique h6]
def bl_ (ws : List ByteArray) : List (List UInt8) := ws.map (·.data.toList)
theorem bl_inj {a b : List ByteArray} (h : bl_ a = bl_ b) : a = b := by
  induction a generalizing b with
  | nil => cases b with
    | nil => rfl
    | cons y r => simp [bl_] at h
  | cons x l ih => cases b with
    | nil => simp [bl_] at h
    | cons y r =>
      simp only [bl_, List.map_cons, List.cons.injEq] at h
      rw [ba_ext h.1, ih h.2]
/-- The pieces so far: ws, and what has been read of the next one. -/
structure SpT (c : UInt8) (L : List UInt8) (ws : List ByteArray) (fr k : Nat) : Prop where
  le : fr ≤ k
  free : ∀ x ∈ bl_ ws, c ∉ x
  cur : c ∉ (L.take k).drop fr
  join : [c].intercalate (bl_ ws ++ [(L.take k).drop fr]) = L.take k
  len : ws.length ≤ k
theorem SpT.start (c : UInt8) (L : List UInt8) : SpT c L [] 0 0 := ⟨Nat.le_refl _, by simp [bl_], by simp, by simp [bl_, List.intercalate], Nat.le_refl _⟩
theorem bl_snoc (ws : List ByteArray) (x : ByteArray) : bl_ (ws ++ [x]) = bl_ ws ++ [x.data.toList] := by simp [bl_]
theorem inter_last {c : UInt8} (ws : List (List UInt8)) (x y : List UInt8) : [c].intercalate (ws ++ [x ++ y]) = [c].intercalate (ws ++ [x]) ++ y := by
  cases ws with
  | nil => rw [List.nil_append, List.nil_append, inter_one, inter_one]
  | cons a r => rw [inter_snoc _ _ (by simp), inter_snoc _ _ (by simp)]; simp
theorem SpT.cut {c : UInt8} {s : ByteArray} {ws : List ByteArray} {fr k : Nat} (h : SpT c s.data.toList ws fr k) (hk : k < s.size) (hc : s[k] = c) : SpT c s.data.toList (ws ++ [s.extract fr k]) (k + 1) (k + 1) := by
  have hl : (s.data.toList.take (k + 1)).length = k + 1 := by rw [List.length_take, tl_len_]; omega
  have e0 : (s.data.toList.take (k + 1)).drop (k + 1) = [] := List.drop_eq_nil_of_le (by omega)
  have e1 : (s.extract fr k).data.toList = (s.data.toList.take k).drop fr := by
    rw [ByteArray.data_extract, Array.toList_extract, List.extract_eq_take_drop, List.drop_take]
  refine ⟨Nat.le_refl _, ?_, by rw [e0]; simp, ?_, by rw [List.length_append]; have := h.len; simp; omega⟩
  · intro x hx
    rw [bl_snoc, List.mem_append] at hx
    rcases hx with q | q
    · exact h.free x q
    · simp only [List.mem_singleton] at q; subst q; rw [e1]; exact h.cur
  · rw [e0, bl_snoc, e1, inter_snoc _ _ (by simp), h.join, tk_succ hk, hc]
theorem SpT.fin {c : UInt8} {s : ByteArray} {ws : List ByteArray} {fr : Nat} (h : SpT c s.data.toList ws fr s.size) : IsSp c s.data.toList (bl_ (ws ++ [s.extract fr s.size])) := by
  have e0 : s.data.toList.take s.size = s.data.toList := List.take_of_length_le (by rw [tl_len_]; exact Nat.le_refl _)
  have e1 : (s.extract fr s.size).data.toList = (s.data.toList.take s.size).drop fr := by
    rw [ByteArray.data_extract, Array.toList_extract, List.extract_eq_take_drop, List.drop_take]
  refine ⟨by simp [bl_], ?_, ?_⟩
  · intro x hx
    rw [bl_snoc, List.mem_append] at hx
    rcases hx with q | q
    · exact h.free x q
    · simp only [List.mem_singleton] at q; subst q; rw [e1]; exact h.cur
  · rw [bl_snoc, e1, h.join, e0]
end Go.Proofs.YtgmppfhokfifgaaGreatDoor
/-
  Plain laws: operations read from their words.
-/
namespace Go.Proofs.YtgmppfhokfifgaaGreatDoor
set_option maxRecDepth 10000
open Go.RowKit Go.Sort

/-- n is the kind with the word x; 0 if there is none. -/
def KindR (x : ByteArray) (n : Nat) : Prop := (1 ≤ n ∧ n ≤ 9 ∧ kw n = x) ∨ (n = 0 ∧ ∀ j, 1 ≤ j → j ≤ 9 → kw j ≠ x)
theorem kw_inj : ∀ i j : Fin 10, kw i.val = kw j.val → i = j := by decide
theorem KindR.unique {x : ByteArray} {m n : Nat} (h : KindR x m) (k : KindR x n) : m = n := by
  rcases h with ⟨h1, h2, h3⟩ | ⟨h1, h2⟩ <;> rcases k with ⟨k1, k2, k3⟩ | ⟨k1, k2⟩
  · have := kw_inj ⟨m, by omega⟩ ⟨n, by omega⟩ (h3.trans k3.symm)
    simpa using this
  · exact absurd h3 (k2 m h1 h2)
  · exact absurd k3 (h2 n k1 k2)
  · omega
def gtB : ByteArray := { data := #[62] }
def ltB : ByteArray := { data := #[60] }
def setF (o : List Int) (b a : Int) : List Int := [gi o 0, gi o 1, b, a, gi o 4, gi o 5, gi o 6, gi o 7]
def setT (o : List Int) (b a : Int) : List Int := [gi o 0, gi o 1, gi o 2, gi o 3, b, a, gi o 6, gi o 7]
def setR (o : List Int) (r : Int) : List Int := [gi o 0, gi o 1, gi o 2, gi o 3, gi o 4, gi o 5, gi o 6, r]
def setK (o : List Int) (c : Int) : List Int := [gi o 0, gi o 1, gi o 2, gi o 3, gi o 4, gi o 5, c, gi o 7]
def setD (o : List Int) (d : Int) : List Int := [gi o 0, d, gi o 2, gi o 3, gi o 4, gi o 5, gi o 6, gi o 7]
def refStep (i : Nat) (x : ByteArray) (o : List Int) : List Int :=
  if (ndC x).2.2 = true then (if i = 0 then setF o (ndC x).1 (ndC x).2.1 else setT o (ndC x).1 (ndC x).2.1)
  else if (numC x).2 = true then (if gi o 0 = 7 then setR o (numC x).1 else setK o (numC x).1) else o
def refUp (ws : List ByteArray) (o : List Int) : Nat → List Int
  | 0 => o
  | k + 1 => refStep k (gs ws k) (refUp ws o k)
def impStep (x : ByteArray) (o : List Int) : List Int :=
  if x = gtB then setD o 1 else if x = ltB then setD o (-1)
  else if (ndC x).2.2 = true then (if gi o 2 = 0 then setF o (ndC x).1 (ndC x).2.1 else setT o (ndC x).1 (ndC x).2.1)
  else if (numC x).2 = true then (if gi o 0 = 7 then setR o (numC x).1 else setK o (numC x).1) else o
def impUp (ws : List ByteArray) (o : List Int) : Nat → List Int
  | 0 => o
  | k + 1 => impStep (gs ws k) (impUp ws o k)
def op0 (n : Nat) : List Int := [(n : Int), 0, 0, 0, 0, 0, 0, 0]
def refO (n : Nat) (r : List ByteArray) : List Int :=
  if 0 < r.length ∧ gs r 0 = gtB then refUp (r.drop 1) (setD (op0 n) 1) (r.drop 1).length
  else if 0 < r.length ∧ gs r 0 = ltB then refUp (r.drop 1) (setD (op0 n) (-1)) (r.drop 1).length
  else refUp r (op0 n) r.length
def impO (n : Nat) (r : List ByteArray) : List Int := impUp r (op0 n) r.length
/-- Words that are read. -/
theorem extract_tail {s : ByteArray} {x : UInt8} {l : List UInt8} (h : s.data.toList = x :: l) : (s.extract 1 s.size).data.toList = l ∧ 0 < s.size := by
  have h0 : 0 < s.size := by rw [← tl_len_, h]; simp
  have := hd_form h0
  rw [h] at this
  exact ⟨(List.cons.inj this).2.symm, h0⟩
theorem nd_yes {b a : Int} (h : ndlB b a = true) : ndC (ndS b a) = (b, a, true) := by
  obtain ⟨hb, a0, a1⟩ := ndlB_iff.1 h
  have hd := nd_data b a
  obtain ⟨h1, h2⟩ := extract_tail hd
  have he : (ndS b a).extract 1 (ndS b a).size = dec a := ba_ext (by rw [h1, dec_data])
  have hn : numC (dec a) = (a, true) := numC_yes rfl (by constructor <;> omega)
  have hbd : b = if hdBT (ndS b a) = 98 then 2 else 1 := by
    unfold hdBT
    rw [hd]
    rcases hb with rfl | rfl
    · rfl
    · rfl
  have := ndC_yes (s := ndS b a) (t := dec a) he.symm hbd (by rw [hn]) (by rw [hn]; exact h) (by rw [hn])
  rw [hn] at this
  exact this
theorem nd_no {s : ByteArray} {x : UInt8} {l : List UInt8} (h : s.data.toList = x :: l) (h1 : x ≠ 102) (h2 : x ≠ 98) : (ndC s).2.2 = false := by
  have : ndC s = (0, 0, false) := ndC_txt (s := s) rfl (b := 1) (by
    have hh : hdBT s = x := by unfold hdBT; rw [h]; rfl
    rw [hh, if_neg h2]) fun q => by
      have e := congrArg (fun y : ByteArray => y.data.toList) q
      simp only [nd_data, h, if_true] at e
      exact h1 (List.cons.inj e).1.symm
  rw [this]
theorem dec_head (c : Int) : ∃ x l, (dec c).data.toList = x :: l ∧ x.toNat ≤ 57 := by
  rcases dec_form c with ⟨-, h⟩ | ⟨-, h⟩
  · exact ⟨_, _, h, by decide⟩
  · obtain ⟨b, r, e, -⟩ := dig_head c.natAbs
    exact ⟨b, r, h.trans e, (dig_all c.natAbs b (by rw [e]; simp)).2⟩
theorem nd_dec (c : Int) : (ndC (dec c)).2.2 = false := by
  obtain ⟨x, l, h, hx⟩ := dec_head c
  exact nd_no h (by rintro rfl; revert hx; decide) (by rintro rfl; revert hx; decide)
theorem dec_ne (c : Int) : dec c ≠ gtB ∧ dec c ≠ ltB := by
  obtain ⟨x, l, h, hx⟩ := dec_head c
  refine ⟨fun e => ?_, fun e => ?_⟩
  · rw [e] at h; have := (List.cons.inj h).1; subst this; revert hx; decide
  · rw [e] at h; have := (List.cons.inj h).1; subst this; revert hx; decide
theorem ndS_ne {b a : Int} (hb : b = 1 ∨ b = 2) : ndS b a ≠ gtB ∧ ndS b a ≠ ltB := by
  have h := nd_data b a
  refine ⟨fun e => ?_, fun e => ?_⟩
  · rw [e] at h; have := (List.cons.inj h).1; rcases hb with rfl | rfl <;> revert this <;> decide
  · rw [e] at h; have := (List.cons.inj h).1; rcases hb with rfl | rfl <;> revert this <;> decide
theorem dirS_is {d : Int} (h : dirB d = true) : (d = 1 ∧ dirS d = gtB) ∨ (d = -1 ∧ dirS d = ltB) := by
  rcases dirB_iff.1 h with rfl | rfl
  · exact .inl ⟨rfl, rfl⟩
  · exact .inr ⟨rfl, rfl⟩
theorem num_dec {c : Int} (h : numOk c) : numC (dec c) = (c, true) := numC_yes rfl h
theorem gs0 (a : ByteArray) (l : List ByteArray) : gs (a :: l) 0 = a := rfl
theorem op_rest (k d fb fa tb ta c r : Int) : (opW k d fb fa tb ta c r).drop 1 = (if d = 0 then [] else [dirS d]) ++ (if fb = 0 then [] else [ndS fb fa]) ++ (if tb = 0 then [] else [ndS tb ta]) ++ (if c = 0 then [] else [dec c]) ++ (if k = 7 then [dec r] else []) := rfl
theorem refO_gt {n : Nat} {l : List ByteArray} : refO n (gtB :: l) = refUp l (setD (op0 n) 1) l.length := by
  unfold refO; rw [if_pos ⟨by simp, rfl⟩]; rfl
theorem refO_lt {n : Nat} {l : List ByteArray} : refO n (ltB :: l) = refUp l (setD (op0 n) (-1)) l.length := by
  unfold refO; rw [if_neg (fun q => absurd q.2 (by rw [gs0]; decide)), if_pos ⟨by simp, rfl⟩]; rfl
theorem refO_no {n : Nat} {x : ByteArray} {l : List ByteArray} (h : x ≠ gtB ∧ x ≠ ltB) : refO n (x :: l) = refUp (x :: l) (op0 n) (l.length + 1) := by
  unfold refO; rw [if_neg (fun q => h.1 q.2), if_neg (fun q => h.2 q.2)]; rfl
theorem rs_nd0 {b a : Int} (h : ndlB b a = true) (o : List Int) : refStep 0 (ndS b a) o = setF o b a := by unfold refStep; rw [nd_yes h]; rfl
theorem rs_nd {i : Nat} {b a : Int} (hi : i ≠ 0) (h : ndlB b a = true) (o : List Int) : refStep i (ndS b a) o = setT o b a := by unfold refStep; rw [nd_yes h]; simp only [if_true, if_neg hi]
theorem rs_c {i : Nat} {c : Int} (h : numOk c) (o : List Int) (h7 : gi o 0 ≠ 7) : refStep i (dec c) o = setK o c := by unfold refStep; rw [nd_dec, num_dec h]; simp only [Bool.false_eq_true, if_false, if_true, if_neg h7]
theorem rs_r {i : Nat} {c : Int} (h : numOk c) (o : List Int) (h7 : gi o 0 = 7) : refStep i (dec c) o = setR o c := by unfold refStep; rw [nd_dec, num_dec h]; simp only [Bool.false_eq_true, if_false, if_true, if_pos h7]
theorem is_nd0 {b a : Int} (h : ndlB b a = true) (o : List Int) (h2 : gi o 2 = 0) : impStep (ndS b a) o = setF o b a := by
  have hn := ndS_ne (a := a) (ndlB_iff.1 h).1
  unfold impStep; rw [if_neg hn.1, if_neg hn.2, nd_yes h]; simp only [if_true, if_pos h2]
theorem is_nd {b a : Int} (h : ndlB b a = true) (o : List Int) (h2 : gi o 2 ≠ 0) : impStep (ndS b a) o = setT o b a := by
  have hn := ndS_ne (a := a) (ndlB_iff.1 h).1
  unfold impStep; rw [if_neg hn.1, if_neg hn.2, nd_yes h]; simp only [if_true, if_neg h2]
theorem is_c {c : Int} (h : numOk c) (o : List Int) (h7 : gi o 0 ≠ 7) : impStep (dec c) o = setK o c := by
  have hn := dec_ne c
  unfold impStep; rw [if_neg hn.1, if_neg hn.2, nd_dec, num_dec h]; simp only [Bool.false_eq_true, if_false, if_true, if_neg h7]
theorem is_r {c : Int} (h : numOk c) (o : List Int) (h7 : gi o 0 = 7) : impStep (dec c) o = setR o c := by
  have hn := dec_ne c
  unfold impStep; rw [if_neg hn.1, if_neg hn.2, nd_dec, num_dec h]; simp only [Bool.false_eq_true, if_false, if_true, if_pos h7]
theorem is_gt (o : List Int) : impStep gtB o = setD o 1 := by unfold impStep; rw [if_pos rfl]
theorem is_lt (o : List Int) : impStep ltB o = setD o (-1) := by unfold impStep; rw [if_neg (by decide), if_pos rfl]
/-- What both read from the words of a valid operation is the operation. -/
theorem read_op {k d fb fa tb ta c r : Int} (h : vOp k d fb fa tb ta c r = true) {n : Nat} (hn : (n : Int) = k) :
    refO n ((opW k d fb fa tb ta c r).drop 1) = [k, d, fb, fa, tb, ta, c, r] ∧ impO n ((opW k d fb fa tb ta c r).drop 1) = [k, d, fb, fa, tb, ta, c, r] := by
  subst hn
  rw [op_rest]
  unfold vOp at h
  split at h
  · rename_i hk
    simp only [Bool.and_eq_true, inR_iff, beq_iff_eq] at h
    obtain ⟨⟨⟨⟨h1, h2⟩, h3⟩, h4, h5⟩, h6⟩ := h
    subst h4 h5 h6
    have hf := (ndlB_iff.1 h2).1
    have hc : numOk c := by constructor <;> omega
    have h7 : ¬ ((n : Int) = 7) := by omega
    rw [if_neg (show ¬ (fb = 0) by omega), if_pos rfl, if_neg (show ¬ (c = 0) by omega), if_neg h7]
    rcases dirS_is h1 with ⟨rfl, e⟩ | ⟨rfl, e⟩
    · rw [e]
      refine ⟨?_, ?_⟩
      · show refO n (gtB :: [ndS fb fa, dec c]) = _
        rw [refO_gt]
        show refStep 1 (dec c) (refStep 0 (ndS fb fa) (setD (op0 n) 1)) = _
        rw [rs_nd0 h2, rs_c hc _ (by simpa [setF, setD, op0, gi] using h7)]
        simp [setK, setF, setD, op0, gi]
      · show impStep (dec c) (impStep (ndS fb fa) (impStep gtB (op0 n))) = _
        rw [is_gt, is_nd0 h2 _ (by simp [setD, op0, gi]), is_c hc _ (by simpa [setF, setD, op0, gi] using h7)]
        simp [setK, setF, setD, op0, gi]
    · rw [e]
      refine ⟨?_, ?_⟩
      · show refO n (ltB :: [ndS fb fa, dec c]) = _
        rw [refO_lt]
        show refStep 1 (dec c) (refStep 0 (ndS fb fa) (setD (op0 n) (-1))) = _
        rw [rs_nd0 h2, rs_c hc _ (by simpa [setF, setD, op0, gi] using h7)]
        simp [setK, setF, setD, op0, gi]
      · show impStep (dec c) (impStep (ndS fb fa) (impStep ltB (op0 n))) = _
        rw [is_lt, is_nd0 h2 _ (by simp [setD, op0, gi]), is_c hc _ (by simpa [setF, setD, op0, gi] using h7)]
        simp [setK, setF, setD, op0, gi]
  · split at h
    · rename_i hk
      simp only [pairB, Bool.and_eq_true, beq_iff_eq] at h
      obtain ⟨⟨⟨⟨⟨h2, h3⟩, -⟩, h4⟩, h5⟩, h6⟩ := h
      subst h4 h5 h6
      have hf := (ndlB_iff.1 h2).1
      have hf2 := (ndlB_iff.1 h3).1
      have h7 : ¬ ((n : Int) = 7) := by omega
      rw [if_pos rfl, if_neg (show ¬ (fb = 0) by omega), if_neg (show ¬ (tb = 0) by omega), if_pos rfl, if_neg h7]
      refine ⟨?_, ?_⟩
      · show refO n (ndS fb fa :: [ndS tb ta]) = _
        rw [refO_no (ndS_ne hf)]
        show refStep 1 (ndS tb ta) (refStep 0 (ndS fb fa) (op0 n)) = _
        rw [rs_nd0 h2, rs_nd (by decide) h3]
        simp [setT, setF, op0, gi]
      · show impStep (ndS tb ta) (impStep (ndS fb fa) (op0 n)) = _
        rw [is_nd0 h2 _ (by simp [op0, gi]), is_nd h3 _ (by simp [setF, op0, gi]; omega)]
        simp [setT, setF, op0, gi]
    · split at h
      · rename_i hk
        simp only [pairB, Bool.and_eq_true, inR_iff, beq_iff_eq] at h
        obtain ⟨⟨⟨⟨⟨h2, h3⟩, -⟩, h1⟩, h4⟩, h6⟩ := h
        subst h6
        have hf := (ndlB_iff.1 h2).1
        have hf2 := (ndlB_iff.1 h3).1
        have hc : numOk c := by constructor <;> omega
        have h7 : ¬ ((n : Int) = 7) := by omega
        rw [if_neg (show ¬ (fb = 0) by omega), if_neg (show ¬ (tb = 0) by omega), if_neg (show ¬ (c = 0) by omega), if_neg h7]
        rcases dirS_is h1 with ⟨rfl, e⟩ | ⟨rfl, e⟩
        · rw [e]
          refine ⟨?_, ?_⟩
          · show refO n (gtB :: [ndS fb fa, ndS tb ta, dec c]) = _
            rw [refO_gt]
            show refStep 2 (dec c) (refStep 1 (ndS tb ta) (refStep 0 (ndS fb fa) (setD (op0 n) 1))) = _
            rw [rs_nd0 h2, rs_nd (by decide) h3, rs_c hc _ (by simpa [setT, setF, setD, op0, gi] using h7)]
            simp [setK, setT, setF, setD, op0, gi]
          · show impStep (dec c) (impStep (ndS tb ta) (impStep (ndS fb fa) (impStep gtB (op0 n)))) = _
            rw [is_gt, is_nd0 h2 _ (by simp [setD, op0, gi]), is_nd h3 _ (by simp [setF, setD, op0, gi]; omega), is_c hc _ (by simpa [setT, setF, setD, op0, gi] using h7)]
            simp [setK, setT, setF, setD, op0, gi]
        · rw [e]
          refine ⟨?_, ?_⟩
          · show refO n (ltB :: [ndS fb fa, ndS tb ta, dec c]) = _
            rw [refO_lt]
            show refStep 2 (dec c) (refStep 1 (ndS tb ta) (refStep 0 (ndS fb fa) (setD (op0 n) (-1)))) = _
            rw [rs_nd0 h2, rs_nd (by decide) h3, rs_c hc _ (by simpa [setT, setF, setD, op0, gi] using h7)]
            simp [setK, setT, setF, setD, op0, gi]
          · show impStep (dec c) (impStep (ndS tb ta) (impStep (ndS fb fa) (impStep ltB (op0 n)))) = _
            rw [is_lt, is_nd0 h2 _ (by simp [setD, op0, gi]), is_nd h3 _ (by simp [setF, setD, op0, gi]; omega), is_c hc _ (by simpa [setT, setF, setD, op0, gi] using h7)]
            simp [setK, setT, setF, setD, op0, gi]
      · split at h
        · rename_i hk
          simp only [Bool.and_eq_true, beq_iff_eq] at h
          obtain ⟨⟨⟨⟨h2, h3⟩, h4, h5⟩, h6⟩, h8⟩ := h
          subst h3 h4 h5 h6 h8
          have hf := (ndlB_iff.1 h2).1
          have h7 : ¬ ((n : Int) = 7) := by omega
          rw [if_pos rfl, if_neg (show ¬ (fb = 0) by omega), if_pos rfl, if_pos rfl, if_neg h7]
          refine ⟨?_, ?_⟩
          · show refO n (ndS fb fa :: []) = _
            rw [refO_no (ndS_ne hf)]
            show refStep 0 (ndS fb fa) (op0 n) = _
            rw [rs_nd0 h2]
            simp [setF, op0, gi]
          · show impStep (ndS fb fa) (op0 n) = _
            rw [is_nd0 h2 _ (by simp [op0, gi])]
            simp [setF, op0, gi]
        · split at h
          · rename_i hk
            simp only [Bool.and_eq_true, inR_iff, beq_iff_eq] at h
            obtain ⟨⟨⟨⟨h1, h2⟩, h3, h4⟩, h5, h6⟩, h8⟩ := h
            subst h2 h3 h4 h5 h6 h8
            have hr : numOk r := by constructor <;> omega
            rw [if_pos rfl, if_pos rfl, if_pos rfl, if_pos hk]
            refine ⟨?_, ?_⟩
            · show refO n (dec r :: []) = _
              rw [refO_no (dec_ne r)]
              show refStep 0 (dec r) (op0 n) = _
              rw [rs_r hr _ (by simpa [op0, gi] using hk)]
              simp [setR, op0, gi]
            · show impStep (dec r) (op0 n) = _
              rw [is_r hr _ (by simpa [op0, gi] using hk)]
              simp [setR, op0, gi]
          · split at h
            · rename_i hk
              simp only [Bool.and_eq_true, inR_iff, beq_iff_eq] at h
              obtain ⟨⟨⟨⟨h1, h2⟩, h3, h4⟩, h5, h6⟩, h8⟩ := h
              subst h3 h4 h5 h6 h8
              have hc : numOk c := by constructor <;> omega
              have h7 : ¬ ((n : Int) = 7) := by omega
              rw [if_pos rfl, if_neg (show ¬ (c = 0) by omega), if_neg h7]
              rcases dirS_is h1 with ⟨rfl, e⟩ | ⟨rfl, e⟩
              · rw [e]
                refine ⟨?_, ?_⟩
                · show refO n (gtB :: [dec c]) = _
                  rw [refO_gt]
                  show refStep 0 (dec c) (setD (op0 n) 1) = _
                  rw [rs_c hc _ (by simpa [setD, op0, gi] using h7)]
                  simp [setK, setD, op0, gi]
                · show impStep (dec c) (impStep gtB (op0 n)) = _
                  rw [is_gt, is_c hc _ (by simpa [setD, op0, gi] using h7)]
                  simp [setK, setD, op0, gi]
              · rw [e]
                refine ⟨?_, ?_⟩
                · show refO n (ltB :: [dec c]) = _
                  rw [refO_lt]
                  show refStep 0 (dec c) (setD (op0 n) (-1)) = _
                  rw [rs_c hc _ (by simpa [setD, op0, gi] using h7)]
                  simp [setK, setD, op0, gi]
                · show impStep (dec c) (impStep ltB (op0 n)) = _
                  rw [is_lt, is_c hc _ (by simpa [setD, op0, gi] using h7)]
                  simp [setK, setD, op0, gi]
            · split at h
              · rename_i hk
                simp only [Bool.and_eq_true, inR_iff, beq_iff_eq] at h
                obtain ⟨⟨⟨⟨h1, h2⟩, h3, h4⟩, h5, h6⟩, h8⟩ := h
                subst h2 h3 h4 h5 h6 h8
                have hc : numOk c := by constructor <;> omega
                have h7 : ¬ ((n : Int) = 7) := by omega
                rw [if_pos rfl, if_pos rfl, if_neg (show ¬ (c = 0) by omega), if_neg h7]
                refine ⟨?_, ?_⟩
                · show refO n (dec c :: []) = _
                  rw [refO_no (dec_ne c)]
                  show refStep 0 (dec c) (op0 n) = _
                  rw [rs_c hc _ (by simpa [op0, gi] using h7)]
                  simp [setK, op0, gi]
                · show impStep (dec c) (op0 n) = _
                  rw [is_c hc _ (by simpa [op0, gi] using h7)]
                  simp [setK, op0, gi]
              · cases h
/-- The words of an operation hold no blank. -/
theorem dec_free (c : Int) : (32 : UInt8) ∉ (dec c).data.toList := by
  have hd : ∀ u, (32 : UInt8) ∉ Lib.decDigits u := fun u q => by have := (dig_all u _ q).1; revert this; decide
  rcases dec_form c with ⟨-, h⟩ | ⟨-, h⟩
  · rw [h]
    intro q
    rcases List.mem_cons.1 q with q | q
    · revert q; decide
    · exact hd _ q
  · rw [h]; exact hd _
theorem opW_free (k d fb fa tb ta c r : Int) : ∀ x ∈ bl_ (opW k d fb fa tb ta c r), (32 : UInt8) ∉ x := by
  intro x hx
  obtain ⟨y, hy, rfl⟩ := List.mem_map.1 hx
  have hkw : ∀ n, (32 : UInt8) ∉ (kw n).data.toList := fun n => by
    unfold kw
    by_cases h : n < 10
    · rcases (show n = 0 ∨ n = 1 ∨ n = 2 ∨ n = 3 ∨ n = 4 ∨ n = 5 ∨ n = 6 ∨ n = 7 ∨ n = 8 ∨ n = 9 by omega) with rfl | rfl | rfl | rfl | rfl | rfl | rfl | rfl | rfl | rfl <;> decide
    · rw [List.getD, List.getElem?_eq_none (by simp [kwL]; omega)]; decide
  have hnd : ∀ b a, (32 : UInt8) ∉ (ndS b a).data.toList := fun b a q => by
    rw [nd_data] at q
    rcases List.mem_cons.1 q with q | q
    · split at q <;> revert q <;> decide
    · rw [← dec_data] at q; exact dec_free a q
  have hdr : ∀ e, (32 : UInt8) ∉ (dirS e).data.toList := fun e => by unfold dirS; split <;> decide
  unfold opW at hy
  simp only [List.mem_cons, List.mem_append] at hy
  rcases hy with rfl | (((hy | hy) | hy) | hy) | hy
  · exact hkw _
  all_goals
    split at hy
    · first | (simp only [List.mem_singleton] at hy; subst hy; first | exact hdr _ | exact hnd _ _ | exact dec_free _) | cases hy
    · first | (simp only [List.mem_singleton] at hy; subst hy; first | exact hdr _ | exact hnd _ _ | exact dec_free _) | cases hy
theorem opW_sp (k d fb fa tb ta c r : Int) : IsSp 32 (opTx k d fb fa tb ta c r).data.toList (bl_ (opW k d fb fa tb ta c r)) :=
  ⟨by simp [bl_, opW], opW_free _ _ _ _ _ _ _ _, rfl⟩
/-- The pieces of an operation's text are its words. -/
theorem pieces {k d fb fa tb ta c r : Int} {s : ByteArray} {ws : List ByteArray} (hs : opTx k d fb fa tb ta c r = s) (h : IsSp 32 s.data.toList (bl_ ws)) : ws = opW k d fb fa tb ta c r := by
  subst hs
  exact bl_inj (h.unique (opW_sp _ _ _ _ _ _ _ _))
end Go.Proofs.YtgmppfhokfifgaaGreatDoor
/-
  Contracts: the reference's l08Kind; what a read operation is (plain).
-/
namespace Go.Proofs.YtgmppfhokfifgaaGreatDoor
set_option maxRecDepth 10000
open Go.RowKit Go.Sort

/-- What reading an operation from s gives. -/
def opz : List Int := [0, 0, 0, 0, 0, 0, 0, 0]
def RdRT (s : ByteArray) (o : List Int) (b : Bool) : Prop :=
  (b = true ∧ o.length = 8 ∧ opB o = true ∧ opT o = s) ∨ (b = false ∧ o = opz ∧ ∀ o' : List Int, o'.length = 8 → opB o' = true → opT o' ≠ s)
theorem oct {o : List Int} (h : o.length = 8) : o = [gi o 0, gi o 1, gi o 2, gi o 3, gi o 4, gi o 5, gi o 6, gi o 7] := by
  match o, h with
  | [a, b, c, d, e, f, g, i], _ => rfl
theorem kindR_of {o : List Int} (h : opB o = true) : ∃ n : Nat, (n : Int) = gi o 0 ∧ 1 ≤ n ∧ n ≤ 9 := by
  obtain ⟨n, e, h1, h2, -⟩ := op_cases h
  exact ⟨n, e.symm, h1, h2⟩
/-- If s is the text of a valid operation, both read this operation. -/
theorem parse_valid {s : ByteArray} {ws : List ByteArray} {o : List Int} (hl : o.length = 8) (hv : opB o = true) (hs : opT o = s) (h : IsSp 32 s.data.toList (bl_ ws)) :
    ws = opW (gi o 0) (gi o 1) (gi o 2) (gi o 3) (gi o 4) (gi o 5) (gi o 6) (gi o 7) ∧ ∃ n : Nat, KindR (gs ws 0) n ∧ (n : Int) = gi o 0 ∧ 1 ≤ n ∧ n ≤ 9 ∧ refO n (ws.drop 1) = o ∧ impO n (ws.drop 1) = o := by
  have hw := pieces hs h
  refine ⟨hw, ?_⟩
  obtain ⟨n, e, h1, h2⟩ := kindR_of hv
  have hr := read_op hv e
  rw [← hw] at hr
  refine ⟨n, .inl ⟨h1, h2, ?_⟩, e, h1, h2, hr.1.trans (oct hl).symm, hr.2.trans (oct hl).symm⟩
  rw [hw, ← e]
  unfold opW
  rw [gs0]
  congr 1
theorem parse_kind {s : ByteArray} {ws : List ByteArray} {n : Nat} (hk : KindR (gs ws 0) n) (h : IsSp 32 s.data.toList (bl_ ws)) {o : List Int} (hl : o.length = 8) (hv : opB o = true) (hs : opT o = s) :
    refO n (ws.drop 1) = o ∧ impO n (ws.drop 1) = o := by
  obtain ⟨-, m, hm, -, -, -, h1, h2⟩ := parse_valid hl hv hs h
  rw [hk.unique hm]
  exact ⟨h1, h2⟩
theorem opT_inj {o o' : List Int} (hl : o.length = 8) (hv : opB o = true) (hl' : o'.length = 8) (hv' : opB o' = true) (h : opT o = opT o') : o = o' := by
  obtain ⟨-, n, hk, -, -, -, h1, -⟩ := parse_valid (s := opT o) hl hv rfl (opW_sp _ _ _ _ _ _ _ _)
  have := parse_kind hk (opW_sp _ _ _ _ _ _ _ _) hl' hv' h.symm
  exact h1.symm.trans this.1
theorem RdRT.unique {s : ByteArray} {o o' : List Int} {b b' : Bool} (h : RdRT s o b) (h' : RdRT s o' b') : o = o' ∧ b = b' := by
  rcases h with ⟨rfl, h1, h2, h3⟩ | ⟨rfl, rfl, h1⟩ <;> rcases h' with ⟨rfl, k1, k2, k3⟩ | ⟨rfl, rfl, k1⟩
  · exact ⟨opT_inj h1 h2 k1 k2 (h3.trans k3.symm), rfl⟩
  · exact absurd h3 (k1 _ h1 h2)
  · exact absurd k3 (h1 _ k1 k2)
  · exact ⟨rfl, rfl⟩
theorem opR_eq (o : List Int) : opR (gi o 0) (gi o 1) (gi o 2) (gi o 3) (gi o 4) (gi o 5) (gi o 6) (gi o 7) = if opB o = true then opT o else { data := #[] } := rfl
end Go.Proofs.YtgmppfhokfifgaaGreatDoor
