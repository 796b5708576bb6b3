/-
  Contract: the reference's l07Own (a machine of the call's own).
-/
import Derived.Test.YtgmppfhokfifgaaGreatDoorGmb
import Derived.Test.YtgmppfhokfifgaaGreatDoorGmf
import Derived.Test.YtgmppfhokfifgaaGreatDoorGmc
import Derived.Test.YtgmppfhokfifgaaGreatDoorGpo
import Derived.Deep.DeepCutAuto
import Derived.IntWalk
namespace Go.Proofs.YtgmppfhokfifgaaGreatDoor
set_option maxRecDepth 10000
open Go.RowKit

theorem owc_carS {w : World} {S : Nat → Prop} {lo hi : Nat} {v : Value} {C : List (Bool × Int)} (h : OwR 126 2 w lo hi v C.length (carV C)) (hS : ∀ g, v.ownBlock = some g → S g) : OwC 126 2 w S v C.length (carC C) := by
  refine ⟨carV C, fun _ => 0, (h.mono (Nat.zero_le _) (Nat.le_refl _)).1, fun g hg => ⟨hS g hg, rfl⟩, ⟨by rw [carV_len, carC_len], carC_len C⟩, fun k u c hu hc => ?_⟩
  unfold carV at hu
  rw [List.getElem?_map, hc] at hu
  simp at hu
  obtain ⟨x, rfl, -⟩ := carC_p C c (List.mem_of_getElem? hc)
  exact hu.symm
/-- The beginning of a copy: a box with the carriers and the dropped loops of the call's own. -/
theorem OwBox.begin {w : World} {lo g : Nat} {m : Mac} {c d : Value} {t1 t2 : Nat} (hx : w.heap[g]? = some (.cells #[.int .i64 m.wd, .int .i64 m.rk, .slice none 0 0, .slice none 0 0, c, .slice none 0 0, d] 75)) (hg : lo ≤ g)
    (hc : OwR 126 2 w lo t1 c m.cr.length (carV m.cr)) (hd : Ow w lo t2 d m.dr) (hcg : c.ownBlock ≠ some g) (hdg : d.ownBlock ≠ some g) (hcd : ∀ j, c.ownBlock = some j → d.ownBlock ≠ some j) :
    OwBox w (fun k => lo ≤ k ∧ k < w.heap.size) g { m with fr := [], bk := [], lp := [] } := by
  classical
  have hgl := heap_lt hx
  have hcl : ∀ j, c.ownBlock = some j → lo ≤ j ∧ j < w.heap.size := fun j q => hc.1.lt j q
  have hdl : ∀ j, d.ownBlock = some j → lo ≤ j ∧ j < w.heap.size := fun j q => hd.1.lt j q
  refine ⟨_, _, _, _, _, fun j => if j = g then 5 else if c.ownBlock = some j then 2 else 4, ⟨hg, hgl⟩, by simp, hx, ⟨OwS.nil _ _, OwS.nil _ _, ?_, OwC.nil _ _ _ _, ?_⟩⟩
  · refine owc_carS hc fun j q => ⟨hcl j q, ?_⟩
    rw [if_neg (fun e => hcg (by rw [← e]; exact q)), if_pos q]
  · refine ⟨(hd.mono (Nat.zero_le _) (Nat.le_refl _)).1, fun j q => ⟨hdl j q, ?_⟩⟩
    rw [if_neg (fun e => hdg (by rw [← e]; exact q)), if_neg (fun e => hcd j e q)]
/-- The seven stores into the new box. -/
theorem OwBox.begin7 {w : World} {lo g : Nat} {m : Mac} {c d : Value} {t1 t2 : Nat} {z0 z1 z2 z3 z4 z5 z6 : Value} (hx : w.heap[g]? = some (.cells #[z0, z1, z2, z3, z4, z5, z6] 75)) (hg : lo ≤ g)
    (hc : OwR 126 2 w lo t1 c m.cr.length (carV m.cr)) (hd : Ow w lo t2 d m.dr) (hcg : c.ownBlock ≠ some g) (hdg : d.ownBlock ≠ some g) (hcd : ∀ j, c.ownBlock = some j → d.ownBlock ≠ some j) :
    OwBox (((((((w.setCell ⟨g, 0, none⟩ (.int .i64 m.wd)).setCell ⟨g, 1, none⟩ (.int .i64 m.rk)).setCell ⟨g, 2, none⟩ (.slice none 0 0)).setCell ⟨g, 3, none⟩ (.slice none 0 0)).setCell ⟨g, 4, none⟩ c).setCell ⟨g, 5, none⟩ (.slice none 0 0)).setCell ⟨g, 6, none⟩ d)
      (fun k => lo ≤ k ∧ k < (((((((w.setCell ⟨g, 0, none⟩ (.int .i64 m.wd)).setCell ⟨g, 1, none⟩ (.int .i64 m.rk)).setCell ⟨g, 2, none⟩ (.slice none 0 0)).setCell ⟨g, 3, none⟩ (.slice none 0 0)).setCell ⟨g, 4, none⟩ c).setCell ⟨g, 5, none⟩ (.slice none 0 0)).setCell ⟨g, 6, none⟩ d).heap.size) g { m with fr := [], bk := [], lp := [] } ∧
    Below lo w (((((((w.setCell ⟨g, 0, none⟩ (.int .i64 m.wd)).setCell ⟨g, 1, none⟩ (.int .i64 m.rk)).setCell ⟨g, 2, none⟩ (.slice none 0 0)).setCell ⟨g, 3, none⟩ (.slice none 0 0)).setCell ⟨g, 4, none⟩ c).setCell ⟨g, 5, none⟩ (.slice none 0 0)).setCell ⟨g, 6, none⟩ d) := by
  obtain ⟨e1, e2, e3, e4⟩ := box7_set (.int .i64 m.wd) (.int .i64 m.rk) (.slice none 0 0) (.slice none 0 0) c (.slice none 0 0) d hx
  exact ⟨OwBox.begin e1 hg ⟨ownsRow_keep hc.1 fun j q => e2 j fun e => hcg (by rw [← e]; exact q), hc.2⟩ ⟨ownsRow_keep hd.1 fun j q => e2 j fun e => hdg (by rw [← e]; exact q), hd.2⟩ hcg hdg hcd, e4 lo hg⟩
/-- Rows of rows to read, at the entry's world and later ones. -/
theorem SlS.rows {w : World} {B : Nat} {v : Value} {xss : List (List Int)} (h : SlS w B v xss) (hB : B ≤ w.heap.size) (h0 : 0 < xss.length) :
    ∃ p o cap, v = .slice (some ⟨p, o, none⟩) xss.length cap ∧ p < B ∧ ∀ k, k < xss.length → ∃ A c, ∀ w', Below w.heap.size w w' → w'.cell? ⟨p, o + k, none⟩ = some (.slice A (gl xss k).length c) ∧ Sl w' B (.slice A (gl xss k).length c) (gl xss k) := by
  obtain ⟨A, cap, e, h2, h3, h4, h5⟩ := h
  obtain ⟨p, o, rfl, hb, hc⟩ := h5 h0
  refine ⟨p, o, cap, e, hb, fun k hk => ?_⟩
  obtain ⟨u, hu, hs⟩ := hc k hk
  obtain ⟨A2, c2, rfl, -⟩ := id hs
  refine ⟨A2, c2, fun w' hw => ⟨?_, hs.below hw hB⟩⟩
  rw [hw.cell (block_lt_of_cell hu)]; exact hu
theorem SlF.rows {w : World} {B : Nat} {v : Value} {L : List (List Int)} (h : SlF w B v L) (hB : B ≤ w.heap.size) :
    ∃ A cap, v = .slice A L.length cap ∧ (0 < L.length → ∃ p o, A = some ⟨p, o, none⟩ ∧ p < B ∧ ∀ k, k < L.length → ∃ A c, ∀ w', Below w.heap.size w w' → (w'.cell? ⟨p, o + k * 6, none⟩ = some (.int .i64 (gi (gl L k) 0)) ∧ w'.cell? ⟨p, o + k * 6 + 1, none⟩ = some (.int .i64 (gi (gl L k) 1)) ∧ w'.cell? ⟨p, o + k * 6 + 2, none⟩ = some (.int .i64 (gi (gl L k) 2)) ∧ w'.cell? ⟨p, o + k * 6 + 3, none⟩ = some (.int .i64 (gi (gl L k) 3)) ∧ w'.cell? ⟨p, o + k * 6 + 4, none⟩ = some (.int .i64 (gi (gl L k) 4)) ∧ w'.cell? ⟨p, o + k * 6 + 5, none⟩ = some (.slice A ((gl L k).drop 5).length c)) ∧ Sl w' B (.slice A ((gl L k).drop 5).length c) ((gl L k).drop 5)) := by
  obtain ⟨A, cap, e, -, -, hc⟩ := h.cells
  refine ⟨A, cap, e, fun h0 => ?_⟩
  obtain ⟨p, o, e2, hb, hk⟩ := hc h0
  refine ⟨p, o, e2, hb, fun k hkl => ?_⟩
  obtain ⟨h5, u, hu, hs⟩ := hk k hkl
  obtain ⟨A2, c2, rfl, -⟩ := id hs
  have up : ∀ {q : Nat} {x : Value} (w' : World), Below w.heap.size w w' → w.cell? ⟨p, q, none⟩ = some x → w'.cell? ⟨p, q, none⟩ = some x := fun w' hw q => by rw [hw.cell (block_lt_of_cell q)]; exact q
  exact ⟨A2, c2, fun w' hw => ⟨⟨up w' hw (h5 0 (by omega)), up w' hw (h5 1 (by omega)), up w' hw (h5 2 (by omega)), up w' hw (h5 3 (by omega)), up w' hw (h5 4 (by omega)), up w' hw hu⟩, hs.below hw hB⟩⟩
/-- A machine in a box is copied into another box, and given back. -/
theorem OwBox.out {w : World} {S : Nat → Prop} {g r : Nat} {m : Mac} {z0 z1 z2 z3 z4 z5 z6 : Value} (h : OwBox w S g m) (hr : ¬ S r) (hx : w.heap[r]? = some (.cells #[z0, z1, z2, z3, z4, z5, z6] 75)) :
    ∃ f b c l d, w.heap[g]? = some (.cells #[.int .i64 m.wd, .int .i64 m.rk, f, b, c, l, d] 75) ∧
      (((((((w.setCell ⟨r, 0, none⟩ (.int .i64 m.wd)).setCell ⟨r, 1, none⟩ (.int .i64 m.rk)).setCell ⟨r, 2, none⟩ f).setCell ⟨r, 3, none⟩ b).setCell ⟨r, 4, none⟩ c).setCell ⟨r, 5, none⟩ l).setCell ⟨r, 6, none⟩ d).heap[r]? = some (.cells #[.int .i64 m.wd, .int .i64 m.rk, f, b, c, l, d] 75) ∧
      OwM (((((((w.setCell ⟨r, 0, none⟩ (.int .i64 m.wd)).setCell ⟨r, 1, none⟩ (.int .i64 m.rk)).setCell ⟨r, 2, none⟩ f).setCell ⟨r, 3, none⟩ b).setCell ⟨r, 4, none⟩ c).setCell ⟨r, 5, none⟩ l).setCell ⟨r, 6, none⟩ d) S f b c l d m ∧
      (((((((w.setCell ⟨r, 0, none⟩ (.int .i64 m.wd)).setCell ⟨r, 1, none⟩ (.int .i64 m.rk)).setCell ⟨r, 2, none⟩ f).setCell ⟨r, 3, none⟩ b).setCell ⟨r, 4, none⟩ c).setCell ⟨r, 5, none⟩ l).setCell ⟨r, 6, none⟩ d).heap.size = w.heap.size ∧
      Below r w (((((((w.setCell ⟨r, 0, none⟩ (.int .i64 m.wd)).setCell ⟨r, 1, none⟩ (.int .i64 m.rk)).setCell ⟨r, 2, none⟩ f).setCell ⟨r, 3, none⟩ b).setCell ⟨r, 4, none⟩ c).setCell ⟨r, 5, none⟩ l).setCell ⟨r, 6, none⟩ d) := by
  obtain ⟨f, b, c, l, d, tag, hg, htg, hxg, hp⟩ := h
  obtain ⟨e1, e2, e3, e4⟩ := box7_set (.int .i64 m.wd) (.int .i64 m.rk) f b c l d hx
  exact ⟨f, b, c, l, d, hxg, e1, ⟨tag, hp.keep fun k q => e2 k fun e => hr (by rw [← e]; exact q)⟩, e3, e4 r (Nat.le_refl _)⟩
theorem owr_form1 {e : TypeId} {size : Nat} {w : World} {lo hi : Nat} {v : Value} {n : Nat} {us : List Value} (h : OwR e size w lo hi v (n + 1) us) : ∃ A c, v = .slice A (n + 1) c := by
  rcases h.form with ⟨-, h0, -⟩ | ⟨q, cap, e, -⟩
  · omega
  · exact ⟨_, cap, e⟩
/-- A description in its five numbers and its parents. -/
def n5 (o : List Int) : List Int := gi o 0 :: gi o 1 :: gi o 2 :: gi o 3 :: gi o 4 :: o.drop 5
theorem infC_n5 (L : List (List Int)) : infC (L.map n5) = infC L := by
  unfold infC
  rw [List.map_map]
  rfl
theorem OwBox.n5 {w : World} {S : Nat → Prop} {g : Nat} {m : Mac} (h : OwBox w S g (Mac.mk m.wd m.rk m.fr m.bk m.cr (m.lp.map n5) m.dr)) : OwBox w S g m := by
  obtain ⟨f, b, c, l, d, tag, hg, htg, hxg, hp⟩ := h
  refine ⟨f, b, c, l, d, tag, hg, htg, hxg, ⟨hp.fr, hp.bk, hp.cr, ?_, hp.dr⟩⟩
  have := hp.lp
  dsimp only at this
  rwa [List.length_map, infC_n5] at this
set_option maxRecDepth 100000 in
set_option maxHeartbeats 3200000 in
theorem l07Own_any {w : World} {g0 B : Nat} {f0 b0 c0 l0 d0 : Value} {m : Mac} (hx : w.heap[g0]? = some (.cells #[.int .i64 m.wd, .int .i64 m.rk, f0, b0, c0, l0, d0] 75)) (hm : SlM w B f0 b0 c0 l0 d0 m) (hB : B ≤ w.heap.size) (hok : OkM m) :
    Calls Tryz.prog 81 #[.pointer (some ⟨g0, 0, none⟩)] w fun e w' => ∃ f b c l d, e = .returned (.agg #[.int .i64 m.wd, .int .i64 m.rk, f, b, c, l, d]) ∧ OwM w' (fun k => w.heap.size ≤ k ∧ k < w'.heap.size) f b c l d m ∧ Below w.heap.size w w' := by
  have hg0 := heap_lt hx
  obtain ⟨Ac, cc, rfl, -⟩ := id hm.cr
  obtain ⟨Ad, cd, rfl, -⟩ := id hm.dr
  have HCR := Lib.hid hok.cr
  have hdl := hok.drLen
  obtain ⟨⟨y0, y1, y2, y3, y4, y5, y6⟩, -, -⟩ := box7 hx
  have HK := Lib.hid (fun (w' : World) (hw : Below w.heap.size w w') => show w'.cell? ⟨g0, 0, none⟩ = some (.int .i64 m.wd) ∧ w'.cell? ⟨g0, 1, none⟩ = some (.int .i64 m.rk) ∧ w'.cell? ⟨g0, 4, none⟩ = some (.slice Ac m.cr.length cc) ∧ w'.cell? ⟨g0, 6, none⟩ = some (.slice Ad m.dr.length cd) from
    ⟨by rw [hw.cell hg0]; exact y0, by rw [hw.cell hg0]; exact y1, by rw [hw.cell hg0]; exact y4, by rw [hw.cell hg0]; exact y6⟩)
  obtain ⟨hwd1, hwd2⟩ := hok.wd
  obtain ⟨W, hW⟩ : ∃ W : Nat, W = m.fr.length := ⟨_, rfl⟩
  have hfl := hok.fr
  have hbl := hok.bk
  obtain ⟨pf, of, capf, rfl, hpf, hrf⟩ := hm.fr.rows hB (by omega)
  obtain ⟨pb, ob, capb, rfl, hpb, hrb⟩ := hm.bk.rows hB (by omega)
  obtain ⟨Al, capl, rfl, hrl⟩ := hm.lp.rows hB
  have HRF := Lib.hid hrf
  have HRB := Lib.hid hrb
  have HRL := Lib.hid hrl
  have HSF := Lib.hid hok.sf
  have HSB := Lib.hid hok.sb
  have hllp := hok.lp
  have HFL : Hid (m.fr.length = W ∧ m.bk.length = W ∧ m.wd = (W : Int)) := Lib.hid ⟨hW.symm, by omega, by omega⟩
  have hW1 : 1 ≤ W := by omega
  have hW2 : W ≤ 24 := by omega
  have HX := Lib.hid hx
  have HM := Lib.hid hm
  have HOK := Lib.hid hok
  clear hx hm hok y0 y1 y2 y3 y4 y5 y6 hrf hrb hrl hfl hbl hW hwd1 hwd2
  go_enter Tryz.func81, Tryz.ntmps81
  go_wp2_with fail
  generalize hw1 : w.alloc _ = w1
  have hb1 : Below w.heap.size w w1 := by rw [← hw1]; exact al1 w _
  have hz1 : w1.heap.size = w.heap.size + 1 := by rw [← hw1]; simp
  have HR1 := Lib.hid (show w1.heap[w.heap.size]? = some (.cells #[.int .i64 0, .int .i64 0, .slice none 0 0, .slice none 0 0, .slice none 0 0, .slice none 0 0, .slice none 0 0] 75) from by rw [← hw1]; exact alloc_at_ w _)
  have HB1 := Lib.hid hb1
  clear hw1 hb1
  go_cut [3] (fun s3 wx => ∃ g, s3 = .pointer (some ⟨g, 0, none⟩) ∧ w1.heap.size ≤ g ∧ OwBox wx (fun k => w1.heap.size ≤ k ∧ k < wx.heap.size) g { m with fr := [], bk := [], lp := [] } ∧ Below w1.heap.size w1 wx)
  case first =>
    refine wp_region_z (fun w' => w'.cell? ⟨g0, 0, none⟩ = some (.int .i64 m.wd) ∧ w'.cell? ⟨g0, 1, none⟩ = some (.int .i64 m.rk) ∧ w'.cell? ⟨g0, 4, none⟩ = some (.slice Ac m.cr.length cc) ∧ w'.cell? ⟨g0, 6, none⟩ = some (.slice Ad m.dr.length cd)) 21 (by kernel_rfl) (HK.out _ HB1.out.drew) (fun hH0 => ?_)
    have b0 : Below w1.heap.size w1 w1.drew := (Below.refl _ _).drew
    generalize w1.drew = v0 at *
    refine wpZ_take 0 23 (u := ?_) rfl (by kernel_rfl) (fun _ _ _ h => h) ⟨by rfl, ?_⟩ hH0 ?_
    rotate_left
    · intro w hSw; (try dsimp only at hSw); go_simp; (first | done | with_reducible rfl)
    try simp only [Act.put, sb1, sb2, sb3]
    refine wpZ_take 1 23 (u := ?_) rfl (by kernel_rfl) (fun _ _ _ h => h) ⟨by rfl, ?_⟩ hH0 ?_
    rotate_left
    · intro w hSw; (try dsimp only at hSw); go_simp; (first | done | with_reducible rfl)
    try simp only [Act.put, sb1, sb2, sb3]
    refine wpZ_take 2 23 (u := ?_) rfl (by kernel_rfl) (fun _ _ _ h => h) ⟨by rfl, ?_⟩ hH0 ?_
    rotate_left
    · intro w hSw; (try dsimp only at hSw); go_simp; (first | done | with_reducible rfl)
    try simp only [Act.put, sb1, sb2, sb3]
    refine wpZ_take 3 23 (u := ?_) rfl (by kernel_rfl) (fun _ _ _ h => h) ⟨by rfl, ?_⟩ hH0 ?_
    rotate_left
    · intro w hSw; (try dsimp only at hSw); go_simp; (first | done | with_reducible rfl)
    try simp only [Act.put, sb1, sb2, sb3]
    refine wpZ_take 4 23 (u := ?_) rfl (by kernel_rfl) (fun _ _ _ h => h) ⟨by rfl, ?_⟩ hH0 ?_
    rotate_left
    · intro w hSw; (try dsimp only at hSw); go_simp; (first | done | with_reducible rfl)
    try simp only [Act.put, sb1, sb2, sb3]
    refine wpZ_take 5 23 (u := ?_) rfl (by kernel_rfl) (fun _ _ _ h => h) ⟨by rfl, ?_⟩ hH0 ?_
    rotate_left
    · intro w hSw; (try dsimp only at hSw); go_simp; (first | done | with_reducible rfl)
    try simp only [Act.put, sb1, sb2, sb3]
    refine wpZ_take 6 23 (u := ?_) rfl (by kernel_rfl) (fun _ _ _ h => h) ⟨by rfl, ?_⟩ hH0 ?_
    rotate_left
    · intro w hSw; (try dsimp only at hSw); go_simp; (first | done | with_reducible rfl)
    try simp only [Act.put, sb1, sb2, sb3]
    refine wpZ_take 7 23 (u := ?_) rfl (by kernel_rfl) (fun _ _ _ h => h) ⟨by rfl, ?_⟩ hH0 ?_
    rotate_left
    · intro w hSw; (try dsimp only at hSw); go_simp; (first | done | with_reducible rfl)
    try simp only [Act.put, sb1, sb2, sb3]
    refine wpZ_take 9 23 (u := ?_) rfl (by kernel_rfl) (fun _ _ _ h => h) ⟨by rfl, ?_⟩ hH0 ?_
    rotate_left
    · intro w hSw; (try dsimp only at hSw); go_simp; (first | done | with_reducible rfl)
    try simp only [Act.put, sb1, sb2, sb3]
    refine wpZ_take 10 23 (u := ?_) rfl (by kernel_rfl) (fun _ _ _ h => h) ⟨by rfl, ?_⟩ hH0 ?_
    rotate_left
    · intro w hSw; (try dsimp only at hSw); go_simp; (first | done | with_reducible rfl)
    try simp only [Act.put, sb1, sb2, sb3]
    refine wpZ_take 11 23 (u := ?_) rfl (by kernel_rfl) (fun _ _ _ h => h) ⟨by rfl, ?_⟩ hH0 ?_
    rotate_left
    · intro w hSw; (try dsimp only at hSw); go_simp; (first | done | with_reducible rfl)
    try simp only [Act.put, sb1, sb2, sb3]
    refine wpZ_take 12 23 (u := ?_) rfl (by kernel_rfl) (fun _ _ _ h => h) ⟨by rfl, ?_⟩ hH0 ?_
    rotate_left
    · intro w hSw; (try dsimp only at hSw); go_simp; (first | done | with_reducible rfl)
    try simp only [Act.put, sb1, sb2, sb3]
    refine wpZ_take 14 23 (u := ?_) rfl (by kernel_rfl) (fun _ _ _ h => h) ⟨by rfl, ?_⟩ hH0 ?_
    rotate_left
    · intro w hSw; (try dsimp only at hSw); go_simp; (first | done | with_reducible rfl)
    try simp only [Act.put, sb1, sb2, sb3]
    refine wpZ_take 15 23 (u := ?_) rfl (by kernel_rfl) (fun _ _ _ h => h) ⟨by rfl, ?_⟩ hH0 ?_
    rotate_left
    · intro w hSw; (try dsimp only at hSw); go_simp; (first | done | with_reducible rfl)
    try simp only [Act.put, sb1, sb2, sb3]
    refine wpZ_take 16 23 (u := ?_) rfl (by kernel_rfl) (fun _ _ _ h => h) ⟨by rfl, ?_⟩ hH0 ?_
    rotate_left
    · intro w hSw; (try dsimp only at hSw); go_simp; (first | done | with_reducible rfl)
    try simp only [Act.put, sb1, sb2, sb3]
    refine wpZ_take 17 23 (u := ?_) rfl (by kernel_rfl) (fun _ _ _ h => h) ⟨by rfl, ?_⟩ hH0 ?_
    rotate_left
    · intro w hSw; (try dsimp only at hSw); go_simp; (first | done | with_reducible rfl)
    try simp only [Act.put, sb1, sb2, sb3]
    refine wpZ_two 8 20 rfl rfl (by kernel_rfl) (by rfl) (by rfl) (fun K hK => ?_) (fun K hK => ?_)
    · have zz0 := b0.size
      go_simp
      have x15 := OwR.empty 126 2 v0
      have bb := al1 v0 (.cells #[] 126)
      have b1 := b0.trans (bb.mono zz0)
      obtain ⟨gc, hgc⟩ : ∃ x, x = v0.heap.size := ⟨_, rfl⟩
      have hgcl : gc < (v0.alloc (.cells #[] 126)).heap.size := by simp; omega
      have zq1 : v0.heap.size ≤ (v0.alloc (.cells #[] 126)).heap.size := bb.size
      clear bb
      generalize hv1 : v0.alloc (.cells #[] 126) = v1 at *
      refine hK.out _ _ ?_ (fun hH1 => ?_)
      · exact HK.out _ (HB1.out.trans (b1.mono HB1.out.size))
      clear hK K hH0
      try simp only [Act.put, sb1, sb2, sb3]
      refine wpZ_two 13 20 rfl rfl (by kernel_rfl) (by rfl) (by rfl) (fun K hK => ?_) (fun K hK => ?_)
      · have zz1 := b1.size
        have BW := HB1.out.trans (b1.mono HB1.out.size)
        obtain ⟨-, k1, k2⟩ := SlK.carVals (HM.out.cr.keep (fun p hp => BW.cell (p := p) (by omega)))
        refine op_append_cells Tryz.underlying72 car_info rfl (by decide) (by decide) _ _ rfl v1 _ _ Ac m.cr.length cc (.slice (some ⟨v0.heap.size, 0, none⟩) 0 0) 0 [] (carV m.cr) rfl rfl k1 k2 x15 (by omega) (by rw [HCR.out]; omega) (carV_len _) (carV_one _) ?_
        intro r20 v2 x20 hg20 hl20
        rw [Nat.zero_add, List.nil_append] at x20
        have bb : Below w1.heap.size v1 v2 := x15.grown hg20 (by omega) zz1
        have b2 := b1.trans bb
        have hz20 := hg20.size
        have hf20 : ∃ A c, r20 = .slice A m.cr.length c := by
          rcases x20.form with ⟨-, h0, -⟩ | ⟨g, cap, e, -⟩
          · rw [HCR.out] at h0; omega
          · exact ⟨_, cap, e⟩
        have HOB := Lib.hid (fun j (q : r20.ownBlock = some j) => show j = v0.heap.size ∨ v1.heap.size ≤ j from by
          rcases hl20 with e | e
          · rw [e] at q; left; simpa [Value.ownBlock, eq_comm] using q
          · exact .inr (e j q))
        obtain ⟨A20, c20, rfl⟩ := hf20
        clear bb k1 k2 BW x15 hl20
        refine hK.out _ _ ?_ (fun hH2 => ?_)
        · exact HK.out _ (HB1.out.trans (b2.mono HB1.out.size))
        clear hK K hH1
        try simp only [Act.put, sb1, sb2, sb3]
        refine wpZ_two 18 20 rfl rfl (by kernel_rfl) (by rfl) (by rfl) (fun K hK => ?_) (fun K hK => ?_)
        · have zz2 := b2.size
          have BW := HB1.out.trans (b2.mono HB1.out.size)
          go_simp
          go_at_call 116
          refine (l00Own_any _ m.dr B v2 (HM.out.dr.keep (fun p hp => BW.cell (p := p) (by omega))) (by have := BW.size; omega) (by omega)).mono ?_
          rintro e v3 ⟨r25, rfl, x25, bb⟩
          obtain ⟨A25, c25, rfl, -⟩ := id (x25.sl (Nat.le_refl _))
          have x20 := x20.below bb (by omega)
          have b3 := b2.trans (bb.mono zz2)
          have zq3 := bb.size
          clear bb BW
          go_wp2_with fail
          refine hK.out _ _ ?_ (fun hH3 => ?_)
          · exact HK.out _ (HB1.out.trans (b3.mono HB1.out.size))
          clear hK K hH2
          try simp only [Act.put, sb1, sb2, sb3]
          refine wpZ_take 19 23 (u := ?_) rfl (by kernel_rfl) (fun _ _ _ h => h) ⟨by rfl, ?_⟩ hH3 ?_
          rotate_left
          · intro w hSw; (try dsimp only at hSw); go_simp; (first | done | with_reducible rfl)
          try simp only [Act.put, sb1, sb2, sb3]
          refine wpZ_only 20 rfl (by kernel_rfl) (by rfl) (fun K hK => ?_)
          have zz3 := b3.size
          go_simp
          have x3 := alloc_at_ v3 (.cells #[.int .i64 0, .int .i64 0, .slice none 0 0, .slice none 0 0, .slice none 0 0, .slice none 0 0, .slice none 0 0] 75)
          have bb := al1 v3 (.cells #[.int .i64 0, .int .i64 0, .slice none 0 0, .slice none 0 0, .slice none 0 0, .slice none 0 0, .slice none 0 0] 75)
          have x25 := x25.below bb (by omega)
          have x20 := x20.below bb (by omega)
          have b4 := b3.trans (bb.mono zz3)
          obtain ⟨gb, hgb⟩ : ∃ x, x = v3.heap.size := ⟨_, rfl⟩
          have zq4 : v3.heap.size + 1 = (v3.alloc (.cells #[.int .i64 0, .int .i64 0, .slice none 0 0, .slice none 0 0, .slice none 0 0, .slice none 0 0, .slice none 0 0] 75)).heap.size := by simp
          clear bb
          generalize hv4 : v3.alloc (.cells #[.int .i64 0, .int .i64 0, .slice none 0 0, .slice none 0 0, .slice none 0 0, .slice none 0 0, .slice none 0 0] 75) = v4 at *
          refine hK.out _ _ ?_ (fun hH4 => ?_)
          · exact HK.out _ (HB1.out.trans (b4.mono HB1.out.size))
          clear hK K hH3
          try simp only [Act.put, sb1, sb2, sb3]
          refine wpZ_last rfl (by kernel_rfl) (by kernel_rfl) (by rfl) (fun K hK => ?_)
          obtain ⟨⟨t0, t1, t2, t3, t4, t5, t6⟩, tf, -⟩ := box7 x3
          have tf0 := tf 0
          have tf1 := tf 1
          have tf2 := tf 2
          have tf3 := tf 3
          have tf4 := tf 4
          have tf5 := tf 5
          have tf6 := tf 6
          go_simp
          refine hK.out _ _ ?_
          clear hK K hH4
          go_wp2_with fail
          go_meet
          case rel =>
            have hl25 := x25.1.lt
            have hh25 := x25.2
            have hh20 := x20.2
            obtain ⟨ee1, ee2⟩ := OwBox.begin7 (lo := w1.heap.size) (m := m) x3 (by omega) (x20.mono (by omega) (Nat.le_refl _)) (x25.mono (by omega) (Nat.le_refl _)) (fun q => by have := hh20 _ q; rcases HOB.out _ q with e | e <;> omega) (fun q => by have := hl25 _ q; have := hh25 _ q; omega) (fun j q q2 => by have := hh20 j q; have := hl25 j q2; omega)
            exact ⟨_, rfl, by omega, ee1, b4.trans (ee2.mono (by omega))⟩
        · have zz2 := b2.size
          go_simp
          have x3 := alloc_at_ v2 (.cells #[.int .i64 0, .int .i64 0, .slice none 0 0, .slice none 0 0, .slice none 0 0, .slice none 0 0, .slice none 0 0] 75)
          have bb := al1 v2 (.cells #[.int .i64 0, .int .i64 0, .slice none 0 0, .slice none 0 0, .slice none 0 0, .slice none 0 0, .slice none 0 0] 75)
          have x20 := x20.below bb (by omega)
          have b3 := b2.trans (bb.mono zz2)
          obtain ⟨gb, hgb⟩ : ∃ x, x = v2.heap.size := ⟨_, rfl⟩
          have zq3 : v2.heap.size + 1 = (v2.alloc (.cells #[.int .i64 0, .int .i64 0, .slice none 0 0, .slice none 0 0, .slice none 0 0, .slice none 0 0, .slice none 0 0] 75)).heap.size := by simp
          clear bb
          generalize hv3 : v2.alloc (.cells #[.int .i64 0, .int .i64 0, .slice none 0 0, .slice none 0 0, .slice none 0 0, .slice none 0 0, .slice none 0 0] 75) = v3 at *
          refine hK.out _ _ ?_ (fun hH3 => ?_)
          · exact HK.out _ (HB1.out.trans (b3.mono HB1.out.size))
          clear hK K hH2
          try simp only [Act.put, sb1, sb2, sb3]
          refine wpZ_only 18 rfl (by kernel_rfl) (by rfl) (fun K hK => ?_)
          have zz3 := b3.size
          have BW := HB1.out.trans (b3.mono HB1.out.size)
          go_simp
          go_at_call 116
          refine (l00Own_any _ m.dr B v3 (HM.out.dr.keep (fun p hp => BW.cell (p := p) (by omega))) (by have := BW.size; omega) (by omega)).mono ?_
          rintro e v4 ⟨r25, rfl, x25, bb⟩
          obtain ⟨A25, c25, rfl, -⟩ := id (x25.sl (Nat.le_refl _))
          have x20 := x20.below bb (by omega)
          have x3 := (bb.block _ (heap_lt x3)).trans x3
          have b4 := b3.trans (bb.mono zz3)
          have zq4 := bb.size
          clear bb BW
          go_wp2_with fail
          refine hK.out _ _ ?_ (fun hH4 => ?_)
          · exact HK.out _ (HB1.out.trans (b4.mono HB1.out.size))
          clear hK K hH3
          try simp only [Act.put, sb1, sb2, sb3]
          refine wpZ_take 19 23 (u := ?_) rfl (by kernel_rfl) (fun _ _ _ h => h) ⟨by rfl, ?_⟩ hH4 ?_
          rotate_left
          · intro w hSw; (try dsimp only at hSw); go_simp; (first | done | with_reducible rfl)
          try simp only [Act.put, sb1, sb2, sb3]
          refine wpZ_last rfl (by kernel_rfl) (by kernel_rfl) (by rfl) (fun K hK => ?_)
          obtain ⟨⟨t0, t1, t2, t3, t4, t5, t6⟩, tf, -⟩ := box7 x3
          have tf0 := tf 0
          have tf1 := tf 1
          have tf2 := tf 2
          have tf3 := tf 3
          have tf4 := tf 4
          have tf5 := tf 5
          have tf6 := tf 6
          go_simp
          refine hK.out _ _ ?_
          clear hK K hH4
          go_wp2_with fail
          go_meet
          case rel =>
            have hl25 := x25.1.lt
            have hh25 := x25.2
            have hh20 := x20.2
            obtain ⟨ee1, ee2⟩ := OwBox.begin7 (lo := w1.heap.size) (m := m) x3 (by omega) (x20.mono (by omega) (Nat.le_refl _)) (x25.mono (by omega) (Nat.le_refl _)) (fun q => by have := hh20 _ q; rcases HOB.out _ q with e | e <;> omega) (fun q => by have := hl25 _ q; have := hh25 _ q; omega) (fun j q q2 => by have := hh20 j q; have := hl25 j q2; omega)
            exact ⟨_, rfl, by omega, ee1, b4.trans (ee2.mono (by omega))⟩
      · have zz1 := b1.size
        go_simp
        have x3 := alloc_at_ v1 (.cells #[.int .i64 0, .int .i64 0, .slice none 0 0, .slice none 0 0, .slice none 0 0, .slice none 0 0, .slice none 0 0] 75)
        have bb := al1 v1 (.cells #[.int .i64 0, .int .i64 0, .slice none 0 0, .slice none 0 0, .slice none 0 0, .slice none 0 0, .slice none 0 0] 75)
        have x15 := x15.below bb (by omega)
        have b2 := b1.trans (bb.mono zz1)
        obtain ⟨gb, hgb⟩ : ∃ x, x = v1.heap.size := ⟨_, rfl⟩
        have zq2 : v1.heap.size + 1 = (v1.alloc (.cells #[.int .i64 0, .int .i64 0, .slice none 0 0, .slice none 0 0, .slice none 0 0, .slice none 0 0, .slice none 0 0] 75)).heap.size := by simp
        clear bb
        generalize hv2 : v1.alloc (.cells #[.int .i64 0, .int .i64 0, .slice none 0 0, .slice none 0 0, .slice none 0 0, .slice none 0 0, .slice none 0 0] 75) = v2 at *
        refine hK.out _ _ ?_ (fun hH2 => ?_)
        · exact HK.out _ (HB1.out.trans (b2.mono HB1.out.size))
        clear hK K hH1
        try simp only [Act.put, sb1, sb2, sb3]
        refine wpZ_only 13 rfl (by kernel_rfl) (by rfl) (fun K hK => ?_)
        have zz2 := b2.size
        have BW := HB1.out.trans (b2.mono HB1.out.size)
        obtain ⟨-, k1, k2⟩ := SlK.carVals (HM.out.cr.keep (fun p hp => BW.cell (p := p) (by omega)))
        refine op_append_cells Tryz.underlying72 car_info rfl (by decide) (by decide) _ _ rfl v2 _ _ Ac m.cr.length cc (.slice (some ⟨v0.heap.size, 0, none⟩) 0 0) 0 [] (carV m.cr) rfl rfl k1 k2 x15 (by omega) (by rw [HCR.out]; omega) (carV_len _) (carV_one _) ?_
        intro r20 v3 x20 hg20 hl20
        rw [Nat.zero_add, List.nil_append] at x20
        have bb : Below w1.heap.size v2 v3 := x15.grown hg20 (by omega) zz2
        have b3 := b2.trans bb
        have x3 := (hg20.block _ (heap_lt x3) (fun e => by simp [Value.ownBlock] at e; omega)).trans x3
        have hz20 := hg20.size
        have hf20 : ∃ A c, r20 = .slice A m.cr.length c := by
          rcases x20.form with ⟨-, h0, -⟩ | ⟨g, cap, e, -⟩
          · rw [HCR.out] at h0; omega
          · exact ⟨_, cap, e⟩
        have HOB := Lib.hid (fun j (q : r20.ownBlock = some j) => show j = v0.heap.size ∨ v2.heap.size ≤ j from by
          rcases hl20 with e | e
          · rw [e] at q; left; simpa [Value.ownBlock, eq_comm] using q
          · exact .inr (e j q))
        obtain ⟨A20, c20, rfl⟩ := hf20
        clear bb k1 k2 BW x15 hl20
        refine hK.out _ _ ?_ (fun hH3 => ?_)
        · exact HK.out _ (HB1.out.trans (b3.mono HB1.out.size))
        clear hK K hH2
        try simp only [Act.put, sb1, sb2, sb3]
        refine wpZ_only 18 rfl (by kernel_rfl) (by rfl) (fun K hK => ?_)
        have zz3 := b3.size
        have BW := HB1.out.trans (b3.mono HB1.out.size)
        go_simp
        go_at_call 116
        refine (l00Own_any _ m.dr B v3 (HM.out.dr.keep (fun p hp => BW.cell (p := p) (by omega))) (by have := BW.size; omega) (by omega)).mono ?_
        rintro e v4 ⟨r25, rfl, x25, bb⟩
        obtain ⟨A25, c25, rfl, -⟩ := id (x25.sl (Nat.le_refl _))
        have x20 := x20.below bb (by omega)
        have x3 := (bb.block _ (heap_lt x3)).trans x3
        have b4 := b3.trans (bb.mono zz3)
        have zq4 := bb.size
        clear bb BW
        go_wp2_with fail
        refine hK.out _ _ ?_ (fun hH4 => ?_)
        · exact HK.out _ (HB1.out.trans (b4.mono HB1.out.size))
        clear hK K hH3
        try simp only [Act.put, sb1, sb2, sb3]
        refine wpZ_take 19 23 (u := ?_) rfl (by kernel_rfl) (fun _ _ _ h => h) ⟨by rfl, ?_⟩ hH4 ?_
        rotate_left
        · intro w hSw; (try dsimp only at hSw); go_simp; (first | done | with_reducible rfl)
        try simp only [Act.put, sb1, sb2, sb3]
        refine wpZ_last rfl (by kernel_rfl) (by kernel_rfl) (by rfl) (fun K hK => ?_)
        obtain ⟨⟨t0, t1, t2, t3, t4, t5, t6⟩, tf, -⟩ := box7 x3
        have tf0 := tf 0
        have tf1 := tf 1
        have tf2 := tf 2
        have tf3 := tf 3
        have tf4 := tf 4
        have tf5 := tf 5
        have tf6 := tf 6
        go_simp
        refine hK.out _ _ ?_
        clear hK K hH4
        go_wp2_with fail
        go_meet
        case rel =>
          have hl25 := x25.1.lt
          have hh25 := x25.2
          have hh20 := x20.2
          obtain ⟨ee1, ee2⟩ := OwBox.begin7 (lo := w1.heap.size) (m := m) x3 (by omega) (x20.mono (by omega) (Nat.le_refl _)) (x25.mono (by omega) (Nat.le_refl _)) (fun q => by have := hh20 _ q; rcases HOB.out _ q with e | e <;> omega) (fun q => by have := hl25 _ q; have := hh25 _ q; omega) (fun j q q2 => by have := hh20 j q; have := hl25 j q2; omega)
          exact ⟨_, rfl, by omega, ee1, b4.trans (ee2.mono (by omega))⟩
    · have zz0 := b0.size
      go_simp
      have x3 := alloc_at_ v0 (.cells #[.int .i64 0, .int .i64 0, .slice none 0 0, .slice none 0 0, .slice none 0 0, .slice none 0 0, .slice none 0 0] 75)
      have bb := al1 v0 (.cells #[.int .i64 0, .int .i64 0, .slice none 0 0, .slice none 0 0, .slice none 0 0, .slice none 0 0, .slice none 0 0] 75)
      have b1 := b0.trans (bb.mono zz0)
      obtain ⟨gb, hgb⟩ : ∃ x, x = v0.heap.size := ⟨_, rfl⟩
      have zq1 : v0.heap.size + 1 = (v0.alloc (.cells #[.int .i64 0, .int .i64 0, .slice none 0 0, .slice none 0 0, .slice none 0 0, .slice none 0 0, .slice none 0 0] 75)).heap.size := by simp
      clear bb
      generalize hv1 : v0.alloc (.cells #[.int .i64 0, .int .i64 0, .slice none 0 0, .slice none 0 0, .slice none 0 0, .slice none 0 0, .slice none 0 0] 75) = v1 at *
      refine hK.out _ _ ?_ (fun hH1 => ?_)
      · exact HK.out _ (HB1.out.trans (b1.mono HB1.out.size))
      clear hK K hH0
      try simp only [Act.put, sb1, sb2, sb3]
      refine wpZ_only 8 rfl (by kernel_rfl) (by rfl) (fun K hK => ?_)
      have zz1 := b1.size
      go_simp
      have x15 := OwR.empty 126 2 v1
      have bb := al1 v1 (.cells #[] 126)
      have x3 := (bb.block _ (heap_lt x3)).trans x3
      have b2 := b1.trans (bb.mono zz1)
      obtain ⟨gc, hgc⟩ : ∃ x, x = v1.heap.size := ⟨_, rfl⟩
      have hgcl : gc < (v1.alloc (.cells #[] 126)).heap.size := by simp; omega
      have zq2 : v1.heap.size ≤ (v1.alloc (.cells #[] 126)).heap.size := bb.size
      clear bb
      generalize hv2 : v1.alloc (.cells #[] 126) = v2 at *
      refine hK.out _ _ ?_ (fun hH2 => ?_)
      · exact HK.out _ (HB1.out.trans (b2.mono HB1.out.size))
      clear hK K hH1
      try simp only [Act.put, sb1, sb2, sb3]
      refine wpZ_only 13 rfl (by kernel_rfl) (by rfl) (fun K hK => ?_)
      have zz2 := b2.size
      have BW := HB1.out.trans (b2.mono HB1.out.size)
      obtain ⟨-, k1, k2⟩ := SlK.carVals (HM.out.cr.keep (fun p hp => BW.cell (p := p) (by omega)))
      refine op_append_cells Tryz.underlying72 car_info rfl (by decide) (by decide) _ _ rfl v2 _ _ Ac m.cr.length cc (.slice (some ⟨v1.heap.size, 0, none⟩) 0 0) 0 [] (carV m.cr) rfl rfl k1 k2 x15 (by omega) (by rw [HCR.out]; omega) (carV_len _) (carV_one _) ?_
      intro r20 v3 x20 hg20 hl20
      rw [Nat.zero_add, List.nil_append] at x20
      have bb : Below w1.heap.size v2 v3 := x15.grown hg20 (by omega) zz2
      have b3 := b2.trans bb
      have x3 := (hg20.block _ (heap_lt x3) (fun e => by simp [Value.ownBlock] at e; omega)).trans x3
      have hz20 := hg20.size
      have hf20 : ∃ A c, r20 = .slice A m.cr.length c := by
        rcases x20.form with ⟨-, h0, -⟩ | ⟨g, cap, e, -⟩
        · rw [HCR.out] at h0; omega
        · exact ⟨_, cap, e⟩
      have HOB := Lib.hid (fun j (q : r20.ownBlock = some j) => show j = v1.heap.size ∨ v2.heap.size ≤ j from by
        rcases hl20 with e | e
        · rw [e] at q; left; simpa [Value.ownBlock, eq_comm] using q
        · exact .inr (e j q))
      obtain ⟨A20, c20, rfl⟩ := hf20
      clear bb k1 k2 BW x15 hl20
      refine hK.out _ _ ?_ (fun hH3 => ?_)
      · exact HK.out _ (HB1.out.trans (b3.mono HB1.out.size))
      clear hK K hH2
      try simp only [Act.put, sb1, sb2, sb3]
      refine wpZ_only 18 rfl (by kernel_rfl) (by rfl) (fun K hK => ?_)
      have zz3 := b3.size
      have BW := HB1.out.trans (b3.mono HB1.out.size)
      go_simp
      go_at_call 116
      refine (l00Own_any _ m.dr B v3 (HM.out.dr.keep (fun p hp => BW.cell (p := p) (by omega))) (by have := BW.size; omega) (by omega)).mono ?_
      rintro e v4 ⟨r25, rfl, x25, bb⟩
      obtain ⟨A25, c25, rfl, -⟩ := id (x25.sl (Nat.le_refl _))
      have x20 := x20.below bb (by omega)
      have x3 := (bb.block _ (heap_lt x3)).trans x3
      have b4 := b3.trans (bb.mono zz3)
      have zq4 := bb.size
      clear bb BW
      go_wp2_with fail
      refine hK.out _ _ ?_ (fun hH4 => ?_)
      · exact HK.out _ (HB1.out.trans (b4.mono HB1.out.size))
      clear hK K hH3
      try simp only [Act.put, sb1, sb2, sb3]
      refine wpZ_take 19 23 (u := ?_) rfl (by kernel_rfl) (fun _ _ _ h => h) ⟨by rfl, ?_⟩ hH4 ?_
      rotate_left
      · intro w hSw; (try dsimp only at hSw); go_simp; (first | done | with_reducible rfl)
      try simp only [Act.put, sb1, sb2, sb3]
      refine wpZ_last rfl (by kernel_rfl) (by kernel_rfl) (by rfl) (fun K hK => ?_)
      obtain ⟨⟨t0, t1, t2, t3, t4, t5, t6⟩, tf, -⟩ := box7 x3
      have tf0 := tf 0
      have tf1 := tf 1
      have tf2 := tf 2
      have tf3 := tf 3
      have tf4 := tf 4
      have tf5 := tf 5
      have tf6 := tf 6
      go_simp
      refine hK.out _ _ ?_
      clear hK K hH4
      go_wp2_with fail
      go_meet
      case rel =>
        have hl25 := x25.1.lt
        have hh25 := x25.2
        have hh20 := x20.2
        obtain ⟨ee1, ee2⟩ := OwBox.begin7 (lo := w1.heap.size) (m := m) x3 (by omega) (x20.mono (by omega) (Nat.le_refl _)) (x25.mono (by omega) (Nat.le_refl _)) (fun q => by have := hh20 _ q; rcases HOB.out _ q with e | e <;> omega) (fun q => by have := hl25 _ q; have := hh25 _ q; omega) (fun j q q2 => by have := hh20 j q; have := hl25 j q2; omega)
        exact ⟨_, rfl, by omega, ee1, b4.trans (ee2.mono (by omega))⟩
  case rest =>
    obtain ⟨g, rfl, hgg, hox, hbx⟩ := hcut
    obtain ⟨w2, hw2⟩ : ∃ x, x = wc := ⟨_, rfl⟩
    subst hw2
    have HOX := Lib.hid hox
    have HB2 := Lib.hid hbx
    clear hox hbx HK
    go_wp2_with fail
    go_loopw [4] (fun i wr => ∃ k : Nat, k ≤ W ∧ i = .int .i64 k ∧ OwBox wr (fun j => w1.heap.size ≤ j ∧ j < wr.heap.size) g (Mac.mk m.wd m.rk (m.fr.take k) (m.bk.take k) m.cr [] m.dr) ∧ Below w1.heap.size w1 wr) (fun i _ => W - (intOf i).toNat)
    case atStart => exact ⟨0, Nat.zero_le _, rfl, HOX.out, HB2.out⟩
    case round =>
      obtain ⟨k, hk, rfl, hx, hb⟩ := hrel
      clear HOX HB2
      have hz := hb.size
      have HB := Lib.hid hb
      have hbr := HB1.out.trans (hb.mono HB1.out.size)
      have HBRa := Lib.hid hbr
      have p0 : wr.cell? ⟨g0, 0, none⟩ = some (.int .i64 W) := by
        have := (box7 ((hbr.block g0 hg0).trans HX.out)).1.1
        rwa [HFL.out.2.2] at this
      clear hb hbr
      obtain ⟨F, hF⟩ : ∃ F, F = m.fr.take k := ⟨_, rfl⟩
      obtain ⟨Kb, hK⟩ : ∃ Kb, Kb = m.bk.take k := ⟨_, rfl⟩
      rw [← hF, ← hK] at hx
      have hFl : F.length ≤ 24 := by rw [hF, List.length_take]; omega
      have hKl : Kb.length ≤ 24 := by rw [hK, List.length_take]; omega
      have HF := Lib.hid hF
      have HQ := Lib.hid hK
      clear hF hK
      by_cases hlt : k < W
      · have hltI : (k : Int) < (W : Int) := by omega
        go_wp2_with fail
        obtain ⟨qf, qb, qc, ql, qd, qvs, hxg, -, hql, hqlo, hput⟩ := hx.pushF (fun j q => q.2)
        dsimp only at hxg hql hput
        obtain ⟨AQ, cQ, rfl⟩ : ∃ AQ cQ, qf = .slice AQ F.length cQ := by
          rcases hql.form with ⟨rfl, h0, -⟩ | ⟨q, cap, rfl, -⟩
          · exact ⟨none, 0, by rw [h0]⟩
          · exact ⟨_, cap, rfl⟩
        obtain ⟨AR, cR, hrow⟩ := HRF.out k (by have := HFL.out; omega)
        have hrl4 : (gl m.fr k).length ≤ 4 := HSF.out _ (gl_mem (by have := HFL.out; omega))
        have hkf : k < m.fr.length := by have := HFL.out; omega
        have hkfI : (k : Int) < (m.fr.length : Int) := by omega
        have hkw : IntKind.i64.wrap (k : Int) = (k : Int) := IntWalk.i64_in _ (by omega)
        have hbw := HBRa.out
        have hxg0 := (hbw.block g0 hg0).trans HX.out
        have hgla : g < wr.heap.size := heap_lt hxg
        have h0l : g0 < wr.heap.size := heap_lt hxg0
        have hplw : pf < wr.heap.size := by have := hbw.size; omega
        have HK := Lib.hid (fun (w' : World) (q1 : w'.heap[g]? = wr.heap[g]?) (q2 : w'.heap[g0]? = wr.heap[g0]?) (q3 : w'.heap[pf]? = wr.heap[pf]?) => show w'.cell? ⟨g, 2, none⟩ = some (.slice AQ F.length cQ) ∧ w'.cell? ⟨g0, 2, none⟩ = some (.slice (some ⟨pf, of, none⟩) m.fr.length capf) ∧ w'.cell? ⟨pf, of + k, none⟩ = some (.slice AR (gl m.fr k).length cR) from
          ⟨by simp only [World.cell?, q1]; exact (box7 hxg).1.2.2.1, by simp only [World.cell?, q2]; exact (box7 hxg0).1.2.2.1, by simp only [World.cell?, q3]; exact (hrow _ hbw).1⟩)
        have HROW := Lib.hid (fun (w' : World) (q : Below wr.heap.size wr w') => (hrow w' (hbw.trans (q.mono hbw.size))).2)
        have HXG := Lib.hid hxg
        have HPUT := Lib.hid hput
        have HL := Lib.hid hql
        have HLO := Lib.hid (fun j q => And.intro (hqlo j q).1.1 (hqlo j q).2)
        have hw1l : w.heap.size < w1.heap.size := by omega
        clear hxg hql hqlo hput hrow hbw hxg0 hx
        refine wp_region_z (fun w' => w'.cell? ⟨g, 2, none⟩ = some (.slice AQ F.length cQ) ∧ w'.cell? ⟨g0, 2, none⟩ = some (.slice (some ⟨pf, of, none⟩) m.fr.length capf) ∧ w'.cell? ⟨pf, of + k, none⟩ = some (.slice AR (gl m.fr k).length cR)) 13 (by kernel_rfl) (HK.out _ rfl rfl rfl) (fun hH0 => ?_)
        refine wpZ_take 0 15 (u := ?_) rfl (by kernel_rfl) (fun _ _ _ h => h) ⟨by rfl, ?_⟩ hH0 ?_
        rotate_left
        · intro w hSw; (try dsimp only at hSw); go_simp; (first | done | with_reducible rfl)
        try simp only [Act.put, sb1, sb2, sb3]
        refine wpZ_take 1 15 (u := ?_) rfl (by kernel_rfl) (fun _ _ _ h => h) ⟨by rfl, ?_⟩ hH0 ?_
        rotate_left
        · intro w hSw; (try dsimp only at hSw); go_simp; (first | done | with_reducible rfl)
        try simp only [Act.put, sb1, sb2, sb3]
        refine wpZ_take 2 15 (u := ?_) rfl (by kernel_rfl) (fun _ _ _ h => h) ⟨by rfl, ?_⟩ hH0 ?_
        rotate_left
        · intro w hSw; (try dsimp only at hSw); go_simp; (first | done | with_reducible rfl)
        try simp only [Act.put, sb1, sb2, sb3]
        refine wpZ_take 3 15 (u := ?_) rfl (by kernel_rfl) (fun _ _ _ h => h) ⟨by rfl, ?_⟩ hH0 ?_
        rotate_left
        · intro w hSw; (try dsimp only at hSw); go_simp; (first | done | with_reducible rfl)
        try simp only [Act.put, sb1, sb2, sb3]
        refine wpZ_take 4 15 (u := ?_) rfl (by kernel_rfl) (fun _ _ _ h => h) ⟨by rfl, ?_⟩ hH0 ?_
        rotate_left
        · intro w hSw; (try dsimp only at hSw); go_simp; (first | done | with_reducible rfl)
        try simp only [Act.put, sb1, sb2, sb3]
        refine wpZ_take 5 15 (u := ?_) rfl (by kernel_rfl) (fun _ _ _ h => h) ⟨by rfl, ?_⟩ hH0 ?_
        rotate_left
        · intro w hSw; (try dsimp only at hSw); go_simp; (first | done | with_reducible rfl)
        try simp only [Act.put, sb1, sb2, sb3]
        refine wpZ_take 6 15 (u := ?_) rfl (by kernel_rfl) (fun _ _ _ h => h) ⟨by rfl, ?_⟩ hH0 ?_
        rotate_left
        · intro w hSw; (try dsimp only at hSw); go_simp; (first | done | with_reducible rfl)
        try simp only [Act.put, sb1, sb2, sb3]
        refine wpZ_take 7 15 (u := ?_) rfl (by kernel_rfl) (fun _ _ _ h => h) ⟨by rfl, ?_⟩ hH0 ?_
        rotate_left
        · intro w hSw; (try dsimp only at hSw); go_simp; (first | done | with_reducible rfl)
        try simp only [Act.put, sb1, sb2, sb3]
        refine wpZ_take 8 15 (u := ?_) rfl (by kernel_rfl) (fun _ _ _ h => h) ⟨by rfl, ?_⟩ hH0 ?_
        rotate_left
        · intro w hSw; (try dsimp only at hSw); go_simp; (first | done | with_reducible rfl)
        try simp only [Act.put, sb1, sb2, sb3]
        refine wpZ_only 9 rfl (by kernel_rfl) (by rfl) (fun K hK => ?_)
        go_simp
        go_at_call 116
        refine (l00Own_any _ (gl m.fr k) B _ (HROW.out _ (Below.refl _ _).drew) (show B ≤ wr.heap.size by omega) (by omega)).mono ?_
        rintro e w3 ⟨r3, rfl, ho3, hb3⟩
        obtain ⟨A3, c3, rfl, -⟩ := id (ho3.sl (Nat.le_refl _))
        have hr3 : Below wr.heap.size wr w3 := Below.trans (Below.refl _ _).drew (hb3.mono (Nat.le_refl _))
        have hz3 := hr3.size
        have hr4 : Below wr.heap.size wr (w3.alloc (.cells #[.slice A3 (gl m.fr k).length c3] 33)) := hr3.trans ((al1 w3 _).mono hr3.size)
        go_wp2_with fail
        refine hK.out _ _ ?_ (fun hH1 => ?_)
        · exact HK.out _ (hr3.block g hgla) (hr3.block g0 h0l) (hr3.block pf hplw)
        clear hK K hH0
        try simp only [Act.put, sb1, sb2, sb3]
        refine wpZ_only 10 rfl (by kernel_rfl) (by rfl) (fun K hK => ?_)
        go_simp
        refine hK.out _ _ ?_ (fun hH2 => ?_)
        · exact HK.out _ (hr4.block g hgla) (hr4.block g0 h0l) (hr4.block pf hplw)
        clear hK K hH1
        try simp only [Act.put, sb1, sb2, sb3]
        refine wpZ_only 11 rfl (by kernel_rfl) (by rfl) (fun K hK => ?_)
        refine op_append_elem Tryz.underlying71 sl_info rfl (by decide) (by decide) _ _ rfl _ 0 wr.heap.size w3.heap.size (.slice AQ F.length cQ) F.length qvs [.slice A3 (gl m.fr k).length c3] 33 rfl rfl (alloc_at_ w3 _) ?_ (Nat.zero_le _) (by omega) rfl (by simp [Value.oneCell']) ?_
        · exact ((HL.out.below hr3 (Nat.le_refl _)).al (by have := hr3.size; omega) _).mono (Nat.le_refl _) (Nat.le_refl _)
        intro v4 w4 hv4 hg4 hl4
        have hz4 := hg4.size
        have hg5 := (hg4.block g (by simp; omega) (fun e => (HLO.out g e.symm).2 rfl)).trans (hr4.block g hgla)
        have hg6 := (hg4.block g0 (by simp; omega) (fun e => by have := (HLO.out g0 e.symm).1; omega)).trans (hr4.block g0 h0l)
        have hg7 := (hg4.block pf (by simp; omega) (fun e => by have := (HLO.out pf e.symm).1; omega)).trans (hr4.block pf hplw)
        refine hK.out _ _ ?_ (fun hH3 => ?_)
        · exact HK.out _ hg5 hg6 hg7
        clear hK K hH2
        try simp only [Act.put, sb1, sb2, sb3]
        refine wpZ_take 12 15 (u := ?_) rfl (by kernel_rfl) (fun _ _ _ h => h) ⟨by rfl, ?_⟩ hH3 ?_
        rotate_left
        · intro w hSw; (try dsimp only at hSw); go_simp; (first | done | with_reducible rfl)
        try simp only [Act.put, sb1, sb2, sb3]
        refine wpZ_last rfl (by kernel_rfl) (by kernel_rfl) (by rfl) (fun K hK => ?_)
        obtain ⟨A4, c4, rfl⟩ : ∃ A4 c4, v4 = .slice A4 (F.length + 1) c4 := by
          rcases hv4.form with ⟨-, h0, -⟩ | ⟨q, cap, e, -⟩
          · omega
          · exact ⟨_, cap, e⟩
        obtain ⟨P1, P2⟩ := HPUT.out (.slice A3 (gl m.fr k).length c3) (gl m.fr k) (fun j => wr.drew.heap.size ≤ j ∧ j < w3.heap.size) _ _ w4 hr4 ((rw_ _ _).keep (rw_of_ow ho3) fun k hk => (al1 w3 _).block k hk.2) (fun j q => by simp; omega) (fun j q1 q2 => by have q3 : wr.heap.size ≤ j := q1.1; have := q2.2; omega) hg4 hl4 hv4.1
        have hx4 := hg5.trans HXG.out
        obtain ⟨⟨-, -, y2, y3, -, -, -⟩, yf, -⟩ := box7 hx4
        have yf2 := yf 2
        go_simp
        refine hK.out _ _ ?_
        clear hK K hH3
        have z5 : (w4.setCell ⟨g, 2, none⟩ (.slice A4 (F.length + 1) c4)).heap.size = w4.heap.size := by simp [World.setCell]
        generalize w4.setCell ⟨g, 2, none⟩ (.slice A4 (F.length + 1) c4) = w5 at P1 P2 z5 ⊢
        simp at hz4
        have hx : OwBox w5 (fun j => w1.heap.size ≤ j ∧ j < w5.heap.size) g (Mac.mk m.wd m.rk (F ++ [gl m.fr k]) Kb m.cr [] m.dr) := P1.mono fun j q => by
          have hzz := hr4.size
          rcases q with q | ⟨q1, q2⟩ | ⟨q1, q2⟩
          · exact ⟨q.1, by have := q.2; omega⟩
          · exact ⟨by have q1 : wr.heap.size ≤ j := q1; omega, by omega⟩
          · simp at q1; exact ⟨by omega, by omega⟩
        have hbq : Below w1.heap.size wr w5 := ⟨P2.os, P2.tape, P2.output, P2.size, fun j hj => P2.block j (by omega) (fun q => by have := q.1; omega)⟩
        clear P1 P2 z5 hx4 y2 y3 yf yf2 hg5 hg6 hg7 hr3 hr4 hz3 hz4 hv4 hg4 hl4 ho3 hb3 HK HROW HXG HPUT HL HLO hrl4 h0l hplw hkf hkfI hkw
        clear p0
        have hz5 := hbq.size
        have HB5 := Lib.hid (HB.out.trans hbq)
        have HBRb := Lib.hid (HB1.out.trans (HB5.out.mono HB1.out.size))
        clear hbq
        go_wp2_with fail
        obtain ⟨qf, qb, qc, ql, qd, qvs, hxg, -, hql, hqlo, hput⟩ := hx.pushB (fun j q => q.2)
        dsimp only at hxg hql hput
        obtain ⟨AQ, cQ, rfl⟩ : ∃ AQ cQ, qb = .slice AQ Kb.length cQ := by
          rcases hql.form with ⟨rfl, h0, -⟩ | ⟨q, cap, rfl, -⟩
          · exact ⟨none, 0, by rw [h0]⟩
          · exact ⟨_, cap, rfl⟩
        obtain ⟨AR, cR, hrow⟩ := HRB.out k (by have := HFL.out; omega)
        have hrl4 : (gl m.bk k).length ≤ 4 := HSB.out _ (gl_mem (by have := HFL.out; omega))
        have hkf : k < m.bk.length := by have := HFL.out; omega
        have hkfI : (k : Int) < (m.bk.length : Int) := by omega
        have hkw : IntKind.i64.wrap (k : Int) = (k : Int) := IntWalk.i64_in _ (by omega)
        have hbw := HBRb.out
        have hxg0 := (hbw.block g0 hg0).trans HX.out
        have hglb : g < w5.heap.size := heap_lt hxg
        have h0l : g0 < w5.heap.size := heap_lt hxg0
        have hplw : pb < w5.heap.size := by have := hbw.size; omega
        have HK := Lib.hid (fun (w' : World) (q1 : w'.heap[g]? = w5.heap[g]?) (q2 : w'.heap[g0]? = w5.heap[g0]?) (q3 : w'.heap[pb]? = w5.heap[pb]?) => show w'.cell? ⟨g, 3, none⟩ = some (.slice AQ Kb.length cQ) ∧ w'.cell? ⟨g0, 3, none⟩ = some (.slice (some ⟨pb, ob, none⟩) m.bk.length capb) ∧ w'.cell? ⟨pb, ob + k, none⟩ = some (.slice AR (gl m.bk k).length cR) from
          ⟨by simp only [World.cell?, q1]; exact (box7 hxg).1.2.2.2.1, by simp only [World.cell?, q2]; exact (box7 hxg0).1.2.2.2.1, by simp only [World.cell?, q3]; exact (hrow _ hbw).1⟩)
        have HROW := Lib.hid (fun (w' : World) (q : Below w5.heap.size w5 w') => (hrow w' (hbw.trans (q.mono hbw.size))).2)
        have HXG := Lib.hid hxg
        have HPUT := Lib.hid hput
        have HL := Lib.hid hql
        have HLO := Lib.hid (fun j q => And.intro (hqlo j q).1.1 (hqlo j q).2)
        have hw1l : w.heap.size < w1.heap.size := by omega
        clear hxg hql hqlo hput hrow hbw hxg0 hx
        refine wp_region_z (fun w' => w'.cell? ⟨g, 3, none⟩ = some (.slice AQ Kb.length cQ) ∧ w'.cell? ⟨g0, 3, none⟩ = some (.slice (some ⟨pb, ob, none⟩) m.bk.length capb) ∧ w'.cell? ⟨pb, ob + k, none⟩ = some (.slice AR (gl m.bk k).length cR)) 13 (by kernel_rfl) (HK.out _ rfl rfl rfl) (fun hH0 => ?_)
        refine wpZ_take 0 15 (u := ?_) rfl (by kernel_rfl) (fun _ _ _ h => h) ⟨by rfl, ?_⟩ hH0 ?_
        rotate_left
        · intro w hSw; (try dsimp only at hSw); go_simp; (first | done | with_reducible rfl)
        try simp only [Act.put, sb1, sb2, sb3]
        refine wpZ_take 1 15 (u := ?_) rfl (by kernel_rfl) (fun _ _ _ h => h) ⟨by rfl, ?_⟩ hH0 ?_
        rotate_left
        · intro w hSw; (try dsimp only at hSw); go_simp; (first | done | with_reducible rfl)
        try simp only [Act.put, sb1, sb2, sb3]
        refine wpZ_take 2 15 (u := ?_) rfl (by kernel_rfl) (fun _ _ _ h => h) ⟨by rfl, ?_⟩ hH0 ?_
        rotate_left
        · intro w hSw; (try dsimp only at hSw); go_simp; (first | done | with_reducible rfl)
        try simp only [Act.put, sb1, sb2, sb3]
        refine wpZ_take 3 15 (u := ?_) rfl (by kernel_rfl) (fun _ _ _ h => h) ⟨by rfl, ?_⟩ hH0 ?_
        rotate_left
        · intro w hSw; (try dsimp only at hSw); go_simp; (first | done | with_reducible rfl)
        try simp only [Act.put, sb1, sb2, sb3]
        refine wpZ_take 4 15 (u := ?_) rfl (by kernel_rfl) (fun _ _ _ h => h) ⟨by rfl, ?_⟩ hH0 ?_
        rotate_left
        · intro w hSw; (try dsimp only at hSw); go_simp; (first | done | with_reducible rfl)
        try simp only [Act.put, sb1, sb2, sb3]
        refine wpZ_take 5 15 (u := ?_) rfl (by kernel_rfl) (fun _ _ _ h => h) ⟨by rfl, ?_⟩ hH0 ?_
        rotate_left
        · intro w hSw; (try dsimp only at hSw); go_simp; (first | done | with_reducible rfl)
        try simp only [Act.put, sb1, sb2, sb3]
        refine wpZ_take 6 15 (u := ?_) rfl (by kernel_rfl) (fun _ _ _ h => h) ⟨by rfl, ?_⟩ hH0 ?_
        rotate_left
        · intro w hSw; (try dsimp only at hSw); go_simp; (first | done | with_reducible rfl)
        try simp only [Act.put, sb1, sb2, sb3]
        refine wpZ_take 7 15 (u := ?_) rfl (by kernel_rfl) (fun _ _ _ h => h) ⟨by rfl, ?_⟩ hH0 ?_
        rotate_left
        · intro w hSw; (try dsimp only at hSw); go_simp; (first | done | with_reducible rfl)
        try simp only [Act.put, sb1, sb2, sb3]
        refine wpZ_take 8 15 (u := ?_) rfl (by kernel_rfl) (fun _ _ _ h => h) ⟨by rfl, ?_⟩ hH0 ?_
        rotate_left
        · intro w hSw; (try dsimp only at hSw); go_simp; (first | done | with_reducible rfl)
        try simp only [Act.put, sb1, sb2, sb3]
        refine wpZ_only 9 rfl (by kernel_rfl) (by rfl) (fun K hK => ?_)
        go_simp
        go_at_call 116
        refine (l00Own_any _ (gl m.bk k) B _ (HROW.out _ (Below.refl _ _).drew) (show B ≤ w5.heap.size by omega) (by omega)).mono ?_
        rintro e w3 ⟨r3, rfl, ho3, hb3⟩
        obtain ⟨A3, c3, rfl, -⟩ := id (ho3.sl (Nat.le_refl _))
        have hr3 : Below w5.heap.size w5 w3 := Below.trans (Below.refl _ _).drew (hb3.mono (Nat.le_refl _))
        have hz3 := hr3.size
        have hr4 : Below w5.heap.size w5 (w3.alloc (.cells #[.slice A3 (gl m.bk k).length c3] 33)) := hr3.trans ((al1 w3 _).mono hr3.size)
        go_wp2_with fail
        refine hK.out _ _ ?_ (fun hH1 => ?_)
        · exact HK.out _ (hr3.block g hglb) (hr3.block g0 h0l) (hr3.block pb hplw)
        clear hK K hH0
        try simp only [Act.put, sb1, sb2, sb3]
        refine wpZ_only 10 rfl (by kernel_rfl) (by rfl) (fun K hK => ?_)
        go_simp
        refine hK.out _ _ ?_ (fun hH2 => ?_)
        · exact HK.out _ (hr4.block g hglb) (hr4.block g0 h0l) (hr4.block pb hplw)
        clear hK K hH1
        try simp only [Act.put, sb1, sb2, sb3]
        refine wpZ_only 11 rfl (by kernel_rfl) (by rfl) (fun K hK => ?_)
        refine op_append_elem Tryz.underlying71 sl_info rfl (by decide) (by decide) _ _ rfl _ 0 w5.heap.size w3.heap.size (.slice AQ Kb.length cQ) Kb.length qvs [.slice A3 (gl m.bk k).length c3] 33 rfl rfl (alloc_at_ w3 _) ?_ (Nat.zero_le _) (by omega) rfl (by simp [Value.oneCell']) ?_
        · exact ((HL.out.below hr3 (Nat.le_refl _)).al (by have := hr3.size; omega) _).mono (Nat.le_refl _) (Nat.le_refl _)
        intro v4 w4 hv4 hg4 hl4
        have hz4 := hg4.size
        have hg5 := (hg4.block g (by simp; omega) (fun e => (HLO.out g e.symm).2 rfl)).trans (hr4.block g hglb)
        have hg6 := (hg4.block g0 (by simp; omega) (fun e => by have := (HLO.out g0 e.symm).1; omega)).trans (hr4.block g0 h0l)
        have hg7 := (hg4.block pb (by simp; omega) (fun e => by have := (HLO.out pb e.symm).1; omega)).trans (hr4.block pb hplw)
        refine hK.out _ _ ?_ (fun hH3 => ?_)
        · exact HK.out _ hg5 hg6 hg7
        clear hK K hH2
        try simp only [Act.put, sb1, sb2, sb3]
        refine wpZ_take 12 15 (u := ?_) rfl (by kernel_rfl) (fun _ _ _ h => h) ⟨by rfl, ?_⟩ hH3 ?_
        rotate_left
        · intro w hSw; (try dsimp only at hSw); go_simp; (first | done | with_reducible rfl)
        try simp only [Act.put, sb1, sb2, sb3]
        refine wpZ_last rfl (by kernel_rfl) (by kernel_rfl) (by rfl) (fun K hK => ?_)
        obtain ⟨A4, c4, rfl⟩ : ∃ A4 c4, v4 = .slice A4 (Kb.length + 1) c4 := by
          rcases hv4.form with ⟨-, h0, -⟩ | ⟨q, cap, e, -⟩
          · omega
          · exact ⟨_, cap, e⟩
        obtain ⟨P1, P2⟩ := HPUT.out (.slice A3 (gl m.bk k).length c3) (gl m.bk k) (fun j => w5.drew.heap.size ≤ j ∧ j < w3.heap.size) _ _ w4 hr4 ((rw_ _ _).keep (rw_of_ow ho3) fun k hk => (al1 w3 _).block k hk.2) (fun j q => by simp; omega) (fun j q1 q2 => by have q3 : w5.heap.size ≤ j := q1.1; have := q2.2; omega) hg4 hl4 hv4.1
        have hx4 := hg5.trans HXG.out
        obtain ⟨⟨-, -, y2, y3, -, -, -⟩, yf, -⟩ := box7 hx4
        have yf3 := yf 3
        go_simp
        refine hK.out _ _ ?_
        clear hK K hH3
        have z5 : (w4.setCell ⟨g, 3, none⟩ (.slice A4 (Kb.length + 1) c4)).heap.size = w4.heap.size := by simp [World.setCell]
        generalize w4.setCell ⟨g, 3, none⟩ (.slice A4 (Kb.length + 1) c4) = w9 at P1 P2 z5 ⊢
        simp at hz4
        have hx : OwBox w9 (fun j => w1.heap.size ≤ j ∧ j < w9.heap.size) g (Mac.mk m.wd m.rk (F ++ [gl m.fr k]) (Kb ++ [gl m.bk k]) m.cr [] m.dr) := P1.mono fun j q => by
          have hzz := hr4.size
          rcases q with q | ⟨q1, q2⟩ | ⟨q1, q2⟩
          · exact ⟨q.1, by have := q.2; omega⟩
          · exact ⟨by have q1 : w5.heap.size ≤ j := q1; omega, by omega⟩
          · simp at q1; exact ⟨by omega, by omega⟩
        have hbq : Below w1.heap.size w5 w9 := ⟨P2.os, P2.tape, P2.output, P2.size, fun j hj => P2.block j (by omega) (fun q => by have := q.1; omega)⟩
        clear P1 P2 z5 hx4 y2 y3 yf yf3 hg5 hg6 hg7 hr3 hr4 hz3 hz4 hv4 hg4 hl4 ho3 hb3 HK HROW HXG HPUT HL HLO hrl4 h0l hplw hkf hkfI hkw
        have HB9 := Lib.hid (HB5.out.trans hbq)
        clear hbq
        have HX9 := Lib.hid hx
        clear hx
        go_wp2_with fail
        go_roundw
        case rel =>
          refine ⟨k + 1, by omega, by go_num, ?_, HB9.out⟩
          rw [take_gl (by have := HFL.out; omega), take_gl (by have := HFL.out; omega), ← HF.out, ← HQ.out]
          exact HX9.out
        case measure => simp [intOf]; omega
      · have e : F = m.fr := by rw [HF.out, List.take_of_length_le (by have := HFL.out; omega)]
        subst e
        have e : Kb = m.bk := by rw [HQ.out, List.take_of_length_le (by have := HFL.out; omega)]
        subst e
        have hltI : ¬ ((k : Int) < (W : Int)) := by omega
        obtain ⟨w3, hw3⟩ : ∃ x, x = wr := ⟨_, rfl⟩
        subst hw3
        have HX3 := Lib.hid hx
        have HB3 := Lib.hid HB.out
        clear hx HF HQ HRF HRB HSF HSB
        go_wp2_with fail
        go_loopw [5] (fun i wr => ∃ j : Nat, j ≤ m.lp.length ∧ i = .int .i64 j ∧ OwBox wr (fun j => w1.heap.size ≤ j ∧ j < wr.heap.size) g (Mac.mk m.wd m.rk m.fr m.bk m.cr ((m.lp.take j).map n5) m.dr) ∧ Below w1.heap.size w1 wr) (fun i _ => m.lp.length - (intOf i).toNat)
        case atStart => exact ⟨0, Nat.zero_le _, rfl, HX3.out, HB3.out⟩
        case round =>
          obtain ⟨j, hj, rfl, hx, hb⟩ := hrel
          clear HX3 HB3 HB HBRa p0 hltI hz
          have hz := hb.size
          have HB := Lib.hid hb
          have hbr := HB1.out.trans (hb.mono HB1.out.size)
          have HBRa := Lib.hid hbr
          have p5 := (box7 ((hbr.block g0 hg0).trans HX.out)).1.2.2.2.2.2.1
          clear hb hbr
          by_cases hlt : j < m.lp.length
          · have hltI : (j : Int) < (m.lp.length : Int) := by omega
            obtain ⟨Q, hQ⟩ : ∃ Q, Q = (m.lp.take j).map n5 := ⟨_, rfl⟩
            rw [← hQ] at hx
            have hQl : Q.length ≤ 300 := by rw [hQ, List.length_map, List.length_take]; omega
            have HQ := Lib.hid hQ
            clear hQ
            obtain ⟨pl, ol, hAl, hpl, hrw⟩ := HRL.out (by omega)
            obtain ⟨AR, cR, hrow⟩ := hrw j hlt
            have hp4 : ((gl m.lp j).drop 5).length ≤ 4 := by
              have := HOK.out.inf j hlt
              simp only [infI, infB, Bool.and_eq_true, decide_eq_true_eq] at this
              exact this.1.1.1.2
            obtain ⟨ps, hps⟩ : ∃ ps, ps = (gl m.lp j).drop 5 := ⟨_, rfl⟩
            rw [← hps] at hp4 hrow
            have HPS := Lib.hid hps
            have hbw := HBRa.out
            have hzw := hbw.size
            have hxg0 := (hbw.block g0 hg0).trans HX.out
            have h0l : g0 < wr.heap.size := heap_lt hxg0
            subst hAl
            have HK1 := Lib.hid (fun (w' : World) (q : Below wr.heap.size wr w') => show w'.cell? ⟨g0, 5, none⟩ = some (.slice (some ⟨pl, ol, none⟩) m.lp.length capl) ∧ w'.cell? ⟨pl, ol + j * 6, none⟩ = some (.int .i64 (gi (gl m.lp j) 0)) ∧ w'.cell? ⟨pl, ol + j * 6 + 1, none⟩ = some (.int .i64 (gi (gl m.lp j) 1)) ∧ w'.cell? ⟨pl, ol + j * 6 + 2, none⟩ = some (.int .i64 (gi (gl m.lp j) 2)) ∧ w'.cell? ⟨pl, ol + j * 6 + 3, none⟩ = some (.int .i64 (gi (gl m.lp j) 3)) ∧ w'.cell? ⟨pl, ol + j * 6 + 4, none⟩ = some (.int .i64 (gi (gl m.lp j) 4)) ∧ w'.cell? ⟨pl, ol + j * 6 + 5, none⟩ = some (.slice AR ps.length cR) from
              ⟨by rw [q.cell h0l]; exact (box7 hxg0).1.2.2.2.2.2.1, (hrow w' (hbw.trans (q.mono hzw))).1⟩)
            have HROW := Lib.hid (fun (w' : World) (q : Below wr.heap.size wr w') => (hrow w' (hbw.trans (q.mono hzw))).2)
            obtain ⟨qf, qb, qc, ql, qd, qvs, hxg, -, hql, hqlo, hput⟩ := hx.push (fun j q => q.2)
            dsimp only at hxg hql hput
            obtain ⟨AQ, cQ, rfl⟩ : ∃ AQ cQ, ql = .slice AQ Q.length cQ := by
              rcases hql.form with ⟨rfl, h0, -⟩ | ⟨q, cap, rfl, -⟩
              · exact ⟨none, 0, by rw [h0]⟩
              · exact ⟨_, cap, rfl⟩
            have hglr := heap_lt hxg
            have HXG := Lib.hid hxg
            have HPUT := Lib.hid hput
            have HL := Lib.hid hql
            have HLO := Lib.hid (fun j q => And.intro (hqlo j q).1.1 (hqlo j q).2)
            have HLQ := Lib.hid (fun j q => (hqlo j q).1.2)
            clear hps hrw hrow hbw hxg0 hxg hql hqlo hput hx p5
            obtain ⟨p5, c0, c1, c2, c3, c4, c5⟩ := HK1.out wr (Below.refl _ _)
            have hb6 := al1 wr (.cells #[.int .i64 (gi (gl m.lp j) 0), .int .i64 (gi (gl m.lp j) 1), .int .i64 (gi (gl m.lp j) 2), .int .i64 (gi (gl m.lp j) 3), .int .i64 (gi (gl m.lp j) 4), .slice AR ps.length cR] 139)
            have hx6 := alloc_at_ wr (.cells #[.int .i64 (gi (gl m.lp j) 0), .int .i64 (gi (gl m.lp j) 1), .int .i64 (gi (gl m.lp j) 2), .int .i64 (gi (gl m.lp j) 3), .int .i64 (gi (gl m.lp j) 4), .slice AR ps.length cR] 139)
            have HB6 := Lib.hid hb6
            have HX6 := Lib.hid hx6
            clear hb6 hx6
            go_wp2_with fail
            refine (l00Own_any _ ps B _ (HROW.out _ HB6.out) (by simp; omega) (by omega)).mono ?_
            rintro e w7 ⟨r7, rfl, ho7, hb7⟩
            obtain ⟨A7, c7, rfl, -⟩ := id (ho7.sl (Nat.le_refl _))
            have hx7 := keep_fwd hb7 HX6.out
            have hb7' : Below wr.heap.size wr w7 := HB6.out.trans (hb7.mono HB6.out.size)
            have hz7 := hb7.size
            simp only [World.size_alloc] at hz7
            have ho8 : Ow (w7.setCell ⟨wr.heap.size, 5, none⟩ (.slice A7 ps.length c7)) (wr.heap.size + 1) w7.heap.size (.slice A7 ps.length c7) ps := (ho7.mono (by simp) (Nat.le_refl _)).keep fun k k1 k2 => Below.heap_setCell _ _ _ _ (by simp only; omega)
            have hx8 : (w7.setCell ⟨wr.heap.size, 5, none⟩ (.slice A7 ps.length c7)).heap[wr.heap.size]? = some (.cells #[.int .i64 (gi (gl m.lp j) 0), .int .i64 (gi (gl m.lp j) 1), .int .i64 (gi (gl m.lp j) 2), .int .i64 (gi (gl m.lp j) 3), .int .i64 (gi (gl m.lp j) 4), .slice A7 ps.length c7] 139) := heap_setCell_at (k := 5) _ hx7
            have hb8 : Below wr.heap.size wr (w7.setCell ⟨wr.heap.size, 5, none⟩ (.slice A7 ps.length c7)) := setB (Nat.le_refl _) hb7'
            have e8 : (w7.setCell ⟨wr.heap.size, 5, none⟩ (.slice A7 ps.length c7)).heap.size = w7.heap.size := by simp [World.setCell]
            obtain ⟨⟨d0, d1, d2, d3, d4, d5⟩, yf, -⟩ := box6 hx7
            have yf5 := yf 5
            have HX8 := Lib.hid hx8
            have HB8 := Lib.hid hb8
            have HO8 := Lib.hid ho8
            have HE8 := Lib.hid e8
            have g5 : w7.cell? ⟨g, 5, none⟩ = some (.slice AQ Q.length cQ) := (box7 ((hb7'.block g hglr).trans HXG.out)).1.2.2.2.2.2.1
            have hne : ¬ g = wr.heap.size := by omega
            have hne2 : ¬ wr.heap.size = g := by omega
            clear hx7 hb7 hb7' ho7 yf hx8 hb8 ho8 e8 c0 c1 c2 c3 c4 c5 p5
            have HBN : Hid (Below wr.heap.size wr ((w7.setCell ⟨wr.heap.size, 5, none⟩ (.slice A7 ps.length c7)).alloc (.cells #[.int .i64 (gi (gl m.lp j) 0), .int .i64 (gi (gl m.lp j) 1), .int .i64 (gi (gl m.lp j) 2), .int .i64 (gi (gl m.lp j) 3), .int .i64 (gi (gl m.lp j) 4), .slice A7 ps.length c7] 139))) := Lib.hid (HB8.out.trans ((al1 (w7.setCell ⟨wr.heap.size, 5, none⟩ (.slice A7 ps.length c7)) _).mono HB8.out.size))
            have HZN : Hid (((w7.setCell ⟨wr.heap.size, 5, none⟩ (.slice A7 ps.length c7)).alloc (.cells #[.int .i64 (gi (gl m.lp j) 0), .int .i64 (gi (gl m.lp j) 1), .int .i64 (gi (gl m.lp j) 2), .int .i64 (gi (gl m.lp j) 3), .int .i64 (gi (gl m.lp j) 4), .slice A7 ps.length c7] 139)).heap.size = w7.heap.size + 1) := Lib.hid (by rw [World.size_alloc, HE8.out])
            go_wp2_with (at_builtin; refine wpl_append_elem Tryz.underlying73 info_info rfl (by decide) (by decide) rfl _ _ rfl ((w7.setCell ⟨wr.heap.size, 5, none⟩ (.slice A7 ps.length c7)).alloc (.cells #[.int .i64 (gi (gl m.lp j) 0), .int .i64 (gi (gl m.lp j) 1), .int .i64 (gi (gl m.lp j) 2), .int .i64 (gi (gl m.lp j) 3), .int .i64 (gi (gl m.lp j) 4), .slice A7 ps.length c7] 139)) 0 wr.heap.size w7.heap.size (.slice AQ Q.length cQ) Q.length qvs [.int .i64 (gi (gl m.lp j) 0), .int .i64 (gi (gl m.lp j) 1), .int .i64 (gi (gl m.lp j) 2), .int .i64 (gi (gl m.lp j) 3), .int .i64 (gi (gl m.lp j) 4), .slice A7 ps.length c7] 139 rfl rfl (by rw [← HE8.out]; exact alloc_at_ (w7.setCell ⟨wr.heap.size, 5, none⟩ (.slice A7 ps.length c7)) _) (HL.out.below HBN.out (Nat.le_refl _)) (Nat.zero_le _) (by omega) rfl (by simp [Value.oneCell']) ?_; intro v10 w10 hv10 hg10 hl10; have hg11 := (hg10.block g (by rw [HZN.out]; omega) (fun e => (HLO.out g e.symm).2 rfl)).trans (HBN.out.block g hglr); obtain ⟨A4, c4, rfl⟩ := owr_form1 hv10; have hx10 := hg11.trans HXG.out; obtain ⟨⟨-, -, -, -, -, y5, -⟩, yf, -⟩ := box7 hx10; have yf5 := yf 5; have HG := Lib.hid hg10; have HV := Lib.hid hv10; have HLV := Lib.hid hl10; clear hv10 hg10 hl10 hg11 hx10 yf)
            have hzn := HZN.out
            have hz10 := HG.out.size
            rw [hzn] at hz10
            obtain ⟨P1, P2⟩ := HPUT.out (.slice A7 ps.length c7) ps (gi (gl m.lp j) 0) (gi (gl m.lp j) 1) (gi (gl m.lp j) 2) (gi (gl m.lp j) 3) (gi (gl m.lp j) 4) (fun q => wr.heap.size + 1 ≤ q ∧ q < w7.heap.size) _ _ w10 HBN.out ((rw_ _ _).keep (rw_of_ow HO8.out) fun k hk => (al1 (w7.setCell ⟨wr.heap.size, 5, none⟩ (.slice A7 ps.length c7)) _).block k (by rw [HE8.out]; exact hk.2)) (fun q q1 => by have := q1.2; omega) (fun q q1 q2 => by have := q1.1; have := q2.2; omega) HG.out HLV.out HV.out.1
            have z11 : (w10.setCell ⟨g, 5, none⟩ (.slice A4 (Q.length + 1) c4)).heap.size = w10.heap.size := by simp [World.setCell]
            generalize w10.setCell ⟨g, 5, none⟩ (.slice A4 (Q.length + 1) c4) = w11 at P1 P2 z11 ⊢
            have HX11 : Hid (OwBox w11 (fun j => w1.heap.size ≤ j ∧ j < w11.heap.size) g (Mac.mk m.wd m.rk m.fr m.bk m.cr (Q ++ [gi (gl m.lp j) 0 :: gi (gl m.lp j) 1 :: gi (gl m.lp j) 2 :: gi (gl m.lp j) 3 :: gi (gl m.lp j) 4 :: ps]) m.dr)) := Lib.hid (P1.mono fun q qq => by
              rcases qq with qq | qq | qq
              · exact ⟨qq.1, by have := qq.2; omega⟩
              · exact ⟨by have := qq.1; omega, by have := qq.2; omega⟩
              · have q1 := qq.1
                have q2 := qq.2
                exact ⟨by omega, by omega⟩)
            have hbq : Below w1.heap.size wr w11 := ⟨P2.os, P2.tape, P2.output, P2.size, fun j hj => P2.block j (by omega) (fun q => by have := q.1; omega)⟩
            have HB11 := Lib.hid (HB.out.trans hbq)
            clear P1 P2 z11 y5 yf5 hbq hz10 hzn HBN HZN HG HV HLV HO8 HB8 HX8 HE8 HPUT HL HLO HLQ HXG HX6 HB6 g5 hne hne2 d0 d1 d2 d3 d4 d5
            go_wp2_with fail
            go_roundw
            case rel =>
              refine ⟨j + 1, by omega, by go_num, ?_, HB11.out⟩
              rw [List.take_add_one, List.getElem?_eq_getElem hlt, Option.toList_some, List.map_append, ← HQ.out]
              have e : [m.lp[j]].map n5 = [gi (gl m.lp j) 0 :: gi (gl m.lp j) 1 :: gi (gl m.lp j) 2 :: gi (gl m.lp j) 3 :: gi (gl m.lp j) 4 :: ps] := by rw [HPS.out, gl_eq hlt]; rfl
              rw [e]
              exact HX11.out
            case measure => simp [intOf]; omega
          · obtain rfl : j = m.lp.length := by omega
            rw [List.take_length] at hx
            have hx := hx.n5
            have hxr := (HB.out.block w.heap.size (by omega)).trans HR1.out
            obtain ⟨f, b, c, l, d, e1, e2, e3, e4, e5⟩ := hx.out (r := w.heap.size) (fun q => by have := q.1; omega) hxr
            have hs := e3.sl (B := wr.heap.size) (fun q qq => qq.2)
            obtain ⟨fA, fc, rfl, -⟩ := id hs.fr
            obtain ⟨bA, bc, rfl, -⟩ := id hs.bk
            obtain ⟨cA, cc2, rfl, -⟩ := id hs.cr
            obtain ⟨lA, lc, rfl, -⟩ := id hs.lp
            obtain ⟨dA, dc, rfl, -⟩ := id hs.dr
            clear hs
            obtain ⟨⟨u0, u1, u2, u3, u4, u5, u6⟩, -, -⟩ := box7 e1
            obtain ⟨⟨v0, v1, v2, v3, v4, v5, v6⟩, tf, -⟩ := box7 hxr
            have tf0 := tf 0
            have tf1 := tf 1
            have tf2 := tf 2
            have tf3 := tf 3
            have tf4 := tf 4
            have tf5 := tf 5
            have tf6 := tf 6
            have HN := Lib.hid (box7 e2).1
            have HO := Lib.hid e3
            have HE := Lib.hid e4
            have HZ := Lib.hid (HBRa.out.trans e5)
            clear hx hxr e1 e2 e3 e4 e5 tf
            go_wp2_with fail
            obtain ⟨n0, n1, n2, n3, n4, n5, n6⟩ := HN.out
            refine bodyPost_ret (v := .agg #[.int .i64 m.wd, .int .i64 m.rk, .slice fA m.fr.length fc, .slice bA m.bk.length bc, .slice cA m.cr.length cc2, .slice lA m.lp.length lc, .slice dA m.dr.length dc]) (by simp [results, Tryz.results81, go_sem, n0, n1, n2, n3, n4, n5, n6]) rfl ?_
            exact ⟨_, _, _, _, _, rfl, HO.out.mono fun q qq => ⟨by have := qq.1; omega, by rw [HE.out]; exact qq.2⟩, HZ.out⟩
end Go.Proofs.YtgmppfhokfifgaaGreatDoor
