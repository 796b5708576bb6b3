/-
  Contract: the program's execute (on a machine in a box). Printed by gen_exe.py.
-/
import Derived.Test.YtgmppfhokfifgaaGreatDoorGmd
import Derived.Test.YtgmppfhokfifgaaGreatDoorGme
import Derived.Test.YtgmppfhokfifgaaGreatDoorGmb
import Derived.Test.YtgmppfhokfifgaaGreatDoorGmf
import Derived.Test.YtgmppfhokfifgaaGreatDoorSrt
namespace Go.Proofs.YtgmppfhokfifgaaGreatDoor
set_option maxRecDepth 10000
open Go.RowKit

def Tn (S : Nat → Prop) (b : Nat) (w' : World) : Nat → Prop := fun j => S j ∨ (b ≤ j ∧ j < w'.heap.size)
def opObj (o : List Int) : Obj := .cells #[.int .i64 (gi o 0), .int .i64 (gi o 1), .int .i64 (gi o 2), .int .i64 (gi o 3), .int .i64 (gi o 4), .int .i64 (gi o 5), .int .i64 (gi o 6), .int .i64 (gi o 7)] 38
/-- A state of the walk of execute: the machine in its box, and the operation in its own. -/
structure Exs (w : World) (S : Nat → Prop) (g : Nat) (o : List Int) (wK : World) (mK : Mac) : Prop where
  bx : OwBox wK (Tn S (w.heap.size + 1) wK) g mK
  ch : ChgS S w wK
  op : wK.heap[w.heap.size]? = some (opObj o)
  sz : w.heap.size + 1 ≤ wK.heap.size
  lt : ∀ j, S j → j < w.heap.size
theorem Exs.tlt {w : World} {S : Nat → Prop} {g : Nat} {o : List Int} {wK : World} {mK : Mac} (h : Exs w S g o wK mK) : ∀ j, Tn S (w.heap.size + 1) wK j → j < wK.heap.size := fun j q => by
  rcases q with q | q
  · have := h.lt j q; have := h.sz; omega
  · exact q.2
theorem Exs.not {w : World} {S : Nat → Prop} {g : Nat} {o : List Int} {wK : World} {mK : Mac} (h : Exs w S g o wK mK) : ¬ Tn S (w.heap.size + 1) wK w.heap.size := fun q => by
  rcases q with q | q
  · have := h.lt _ q; omega
  · omega
theorem Exs.step {w : World} {S : Nat → Prop} {g : Nat} {o : List Int} {wK wL : World} {mK mL : Mac} (h : Exs w S g o wK mK) (hb : OwBox wL (Now (Tn S (w.heap.size + 1) wK) wK wL) g mL) (hc : ChgS (Tn S (w.heap.size + 1) wK) wK wL) : Exs w S g o wL mL := by
  have hz := hc.size
  have hs := h.sz
  refine ⟨hb.mono fun j q => ?_, h.ch.then hc fun j hj q => ?_, (hc.block _ (by omega) h.not).trans h.op, by omega, h.lt⟩
  · rcases q with (q | q) | q
    · exact .inl q
    · exact .inr ⟨q.1, by omega⟩
    · exact .inr ⟨by omega, q.2⟩
  · rcases q with q | q
    · exact q
    · omega
theorem Exs.below {w : World} {S : Nat → Prop} {g : Nat} {o : List Int} {wK wL : World} {mK : Mac} (h : Exs w S g o wK mK) (hb : Below wK.heap.size wK wL) : Exs w S g o wL mK :=
  h.step ((h.bx.below h.tlt hb).mono fun _ q => .inl q) (ChgS.of_below hb)
theorem Exs.cells {w : World} {S : Nat → Prop} {g : Nat} {o : List Int} {wK : World} {mK : Mac} (h : Exs w S g o wK mK) : wK.cell? ⟨w.heap.size, 0, none⟩ = some (.int .i64 (gi o 0)) ∧ wK.cell? ⟨w.heap.size, 1, none⟩ = some (.int .i64 (gi o 1)) ∧ wK.cell? ⟨w.heap.size, 2, none⟩ = some (.int .i64 (gi o 2)) ∧ wK.cell? ⟨w.heap.size, 3, none⟩ = some (.int .i64 (gi o 3)) ∧ wK.cell? ⟨w.heap.size, 4, none⟩ = some (.int .i64 (gi o 4)) ∧ wK.cell? ⟨w.heap.size, 5, none⟩ = some (.int .i64 (gi o 5)) ∧ wK.cell? ⟨w.heap.size, 6, none⟩ = some (.int .i64 (gi o 6)) ∧ wK.cell? ⟨w.heap.size, 7, none⟩ = some (.int .i64 (gi o 7)) := (box8 h.op).1
theorem Exs.fin {w : World} {S : Nat → Prop} {g : Nat} {o : List Int} {wK : World} {mK : Mac} (h : Exs w S g o wK mK) : OwBox wK (Now S w wK) g mK := h.bx.mono fun j q => by
  rcases q with q | q
  · exact .inl q
  · exact .inr ⟨by omega, q.2⟩
/-- The dropped loops, laid in order where they are. -/
theorem OwBox.dropIn {w : World} {S : Nat → Prop} {g : Nat} {m : Mac} (h : OwBox w S g m) (hS : ∀ j, S j → j < w.heap.size) :
    ∃ f b c l d, ∃ S2 : Nat → Prop, w.heap[g]? = some (.cells #[.int .i64 m.wd, .int .i64 m.rk, f, b, c, l, d] 75) ∧ (rw_ d m.dr).p w S2 ∧ (∀ j, S2 j → S j) ∧ S g ∧ ¬ S2 g ∧
      ∀ (ds : List Int) (w' : World), (rw_ d ds).p w' S2 → ChgS S2 w w' → OwBox w' S g { m with dr := ds } := by
  obtain ⟨f, b, c, l, d, tag, hg, htg, hx, hp⟩ := h
  refine ⟨f, b, c, l, d, fun k => S k ∧ tag k = 4, hx, hp.dr, fun j q => q.1, hg, fun q => by have := q.2; omega, fun ds w' hr hc => ?_⟩
  have hk : ∀ j, S j → tag j ≠ 4 → w'.heap[j]? = w.heap[j]? := fun j q1 q2 => hc.block j (hS j q1) fun q => q2 q.2
  exact ⟨f, b, c, l, d, tag, hg, htg, (hk g hg (by omega)).trans hx, hp.fr.keep fun k q => hk k q.1 (by omega), hp.bk.keep fun k q => hk k q.1 (by omega), hp.cr.keep fun k q => hk k q.1 (by omega), hp.lp.keep fun k q => hk k q.1 (by omega), hr⟩
theorem opC_facts {m : Mac} {o : List Int} (hok : OkM m) (ho : opB o = true) (h : opC m o = 0) : OpOk m o ∧ codeM m o = 0 := by
  by_cases hf : gi o 3 < m.wd ∧ gi o 5 < m.wd
  · have hop : OpOk m o := ⟨ho, hf.1, hf.2⟩
    exact ⟨hop, by rw [← opC_code hok hop]; exact h⟩
  · rw [opC_no hf] at h; omega
theorem code_lp {m : Mac} {o : List Int} (h : codeM m o = 0) (hk : gi o 0 = 1 ∨ gi o 0 = 2 ∨ gi o 0 = 5) : m.lp.length < 300 := by
  unfold codeM at h
  rw [if_pos hk] at h
  split at h
  · omega
  · split at h <;> omega
theorem code_mv {m : Mac} {o : List Int} (h : codeM m o = 0) (hk : gi o 0 = 4 ∨ gi o 0 = 5) : moveC m o = 0 := by
  unfold codeM at h
  rcases hk with hk | hk
  · simpa [hk] using h
  · rw [if_pos (by omega)] at h
    by_cases c1 : carryB m o = false
    · rw [if_pos c1] at h; omega
    · rw [if_neg c1] at h
      by_cases c2 : 300 ≤ m.lp.length
      · rw [if_pos c2] at h; omega
      · rw [if_neg c2, if_neg (by omega), if_pos hk] at h
        exact h
theorem setAt_eqK {m : Mac} {o : List Int} {K : Nat} (hK : gi o 6 = (K : Int) + 1) (x : Int) (hx : plc (gi o 2) (gi o 3) m.rk + (gi o 1 + 1) / 2 = x) : m.setAt o = { m with cr := m.cr.set K ((gc m.cr K).1, x) } := by
  have e : (gi o 6 - 1).toNat = K := by omega
  simp only [Mac.setAt, Mac.setC, Mac.car, e, hx]
theorem setC_eqK {m : Mac} {o : List Int} {K : Nat} (hK : gi o 6 = (K : Int) + 1) (c : Bool × Int) : m.setC o c = { m with cr := m.cr.set K c } := by
  have e : (gi o 6 - 1).toNat = K := by omega
  simp only [Mac.setC, e]
theorem sd_put_len (m : Mac) (b a b' : Int) (xs : List Int) : ((m.put b a xs).sd b').length = (m.sd b').length := by
  unfold Mac.put Mac.sd
  split <;> split <;> simp
theorem Sl.vals {w : World} {B : Nat} {A : Option Addr} {n cap : Nat} {ys : List Int} (h : Sl w B (.slice A n cap) ys) : n = ys.length ∧ (A = none → n = 0 ∧ cap = 0) ∧ ∀ ad, A = some ad → ∀ j u, (Go.Proofs.YtgmppfhokfifgaaGreatDoor.vals ys)[j]? = some u → w.cell? (ad.add j) = some u := by
  obtain ⟨A', c', e, hl, hm, hn, h5⟩ := h
  injection e with e1 e2 e3
  subst e1 e2 e3
  refine ⟨rfl, fun q => ⟨by have := hn q; omega, hn q⟩, fun ad had j u hu => ?_⟩
  have hj : j < (Go.Proofs.YtgmppfhokfifgaaGreatDoor.vals ys).length := (List.getElem?_eq_some_iff.1 hu).1
  rw [vals_len] at hj
  obtain ⟨b, off, e, -, hc⟩ := h5 (by omega)
  rw [had] at e
  injection e with e
  subst e
  rw [vals_get hj] at hu
  injection hu with hu
  subst hu
  rw [Addr.add_lit]
  exact hc j hj
theorem Exs.nowT {w : World} {S : Nat → Prop} {g : Nat} {o : List Int} {wK wL : World} {mK : Mac} (h : Exs w S g o wK mK) (hz : wK.heap.size ≤ wL.heap.size) : ∀ j, Now (Tn S (w.heap.size + 1) wK) wK wL j → Tn S (w.heap.size + 1) wL j := fun j q => by
  have := h.sz
  rcases q with (q | q) | q
  · exact .inl q
  · exact .inr ⟨q.1, by omega⟩
  · exact .inr ⟨by omega, q.2⟩
theorem OwBox.dropNe {w : World} {S : Nat → Prop} {g : Nat} {m : Mac} (h : OwBox w S g m) {x0 x1 f b c l d : Value} {t : TypeId} (hx : w.heap[g]? = some (.cells #[x0, x1, f, b, c, l, d] t)) {p q n1 c1 : Nat} {bed : Int} (h1 : (if bed = 2 then b else f) = .slice (some ⟨p, 0, none⟩) n1 c1) (h2 : d.ownBlock = some q) : p ≠ q := by
  obtain ⟨f', b', c', l', d', tag, hg, htg, hx', hp⟩ := h
  rw [hx] at hx'
  simp only [Option.some.injEq, Obj.cells.injEq, Array.mk.injEq, List.cons.injEq] at hx'
  obtain ⟨⟨-, -, rfl, rfl, -, -, rfl, -⟩, -⟩ := hx'
  have a2 := (hp.dr.2 q h2).2
  obtain ⟨vs, tg, -, v2, -⟩ := hp.fr
  obtain ⟨vs', tg', -, v2', -⟩ := hp.bk
  intro e
  subst e
  split at h1
  · subst h1
    have := (v2' p rfl).1.2
    omega
  · subst h1
    have := (v2 p rfl).1.2
    omega
set_option maxRecDepth 100000 in
set_option maxHeartbeats 12800000 in
theorem execute_any {w : World} {S : Nat → Prop} {g : Nat} {m : Mac} {o : List Int} (h : OwBox w S g m) (hS : ∀ j, S j → j < w.heap.size) (hok : OkM m) (ho : opB o = true) :
    Calls Tryz.prog 66 #[.pointer (some ⟨g, 0, none⟩), op8 o] w fun e w' => e = .returned (.int .i64 (opC m o)) ∧ OwBox w' (Now S w w') g (if opC m o = 0 then exeM m o else m) ∧ ChgS S w w' := by
  obtain ⟨f, b, c, l, d, hx, hm, sg⟩ := h.rd hS
  have HE1 : Hid (Exs w S g o (w.alloc (opObj o)) m) := Lib.hid ⟨(h.below hS (al1 w _)).mono fun j q => .inl q, ChgS.of_below (al1 w _), alloc_at_ w _, by simp, hS⟩
  have HCODE : Hid (∀ W, Below w.heap.size w W → Calls Tryz.prog 90 #[.pointer (some ⟨g, 0, none⟩), op8 o] W fun e w' => e = .returned (.int .i64 (opC m o)) ∧ Below W.heap.size W w') := Lib.hid fun W q => opCode_any (keep_fwd q hx) (hm.below q (Nat.le_refl _)) q.size hok ho
  have HOK := Lib.hid hok
  have HO := Lib.hid ho
  have hat := op_at ho
  clear h hS hx hm sg hok ho f b c l d
  unfold op8
  by_cases hc : opC m o = 0
  · rw [hc] at HCODE
    rw [hc, if_pos rfl]
    go_enter Tryz.func66, Tryz.ntmps66
    go_wp2_with fail
    refine (HCODE.out _ (al1 w _)).mono ?_
    rintro e w2 ⟨rfl, hq⟩
    have E2 : Exs w S g o w2 m := HE1.out.below hq
    clear hq HE1 HCODE
    obtain ⟨hop, hcm⟩ := opC_facts HOK.out HO.out hc
    clear hc
    have HOP := Lib.hid hop
    have HCM := Lib.hid hcm
    have hform := op_form HO.out
    have hf1 := hop.f1
    have hf2 := hop.f2
    obtain ⟨q0, q1, q2, q3⟩ := hat
    have hrk := HOK.out.rk
    have hwd := HOK.out.wd
    have hlp := HOK.out.lp
    have E2' := Lib.hid E2
    clear hop hcm E2
    have E2 := E2'
    clear E2'
    rcases hform with ⟨hk, hd, hb, -, c1, c2⟩ | ⟨hk, hb, -, hb2, -, hne⟩ | ⟨hk, hb, -, hb2, -, hne, hd, c1, c2⟩ | ⟨hk, hb, -⟩ | ⟨hk, -, -⟩ | ⟨hk, hd, c1, c2⟩ | ⟨hk, c1, c2⟩
    · rcases hk with hk | hk | hk
      · have HKD := Lib.hid hk
        obtain ⟨Kc, hK⟩ : ∃ Kc : Nat, gi o 6 = (Kc : Int) + 1 := ⟨(gi o 6 - 1).toNat, by omega⟩
        have hKl : Kc < m.cr.length := by have := HOK.out.cr; omega
        have hK3 : (Kc : Int) ≤ 3 := by omega
        have hK0 : (0 : Int) ≤ (Kc : Int) := by omega
        have hK4 : (Kc : Int) < 4 := by omega
        have hKw : IntKind.i64.wrap (Kc : Int) = (Kc : Int) := IntWalk.i64_in _ (by omega)
        have HKK := Lib.hid hK
        clear hK c1 c2
        have hn : m.ndl (gi o 2) (gi o 3) := ⟨hb, q0, hf1⟩
        obtain ⟨rf, rb, rc, rl, rd, p, n, cap, u, S2, hxr, hs, kn, hcu, hfu, hru, s2, ns2, sp, sg, ns2g, pg, put⟩ := E2.out.bx.rowF (gi o 2) (gi o 3).toNat (HOK.out.sdlt hn) E2.out.tlt
        rw [Int.toNat_of_nonneg q0] at put
        have hsl := rw_sl hru fun j q => E2.out.tlt j (s2 j q)
        obtain ⟨UA, uc, rfl, -⟩ := id hsl
        have hrl : (m.on (gi o 2) (gi o 3)).length ≤ 4 := on_len HOK.out hn
        have hpW := E2.out.tlt p sp
        have hgW := heap_lt hxr
        have hpnot : ¬ p = w.heap.size := fun e => E2.out.not (e ▸ sp)
        have hpnot2 : ¬ w.heap.size = p := fun e => hpnot e.symm
        have HON : Hid (∀ W : World, W.heap[g]? = w2.heap[g]? → Calls Tryz.prog 91 #[.pointer (some ⟨g, 0, none⟩), .agg #[.int .i64 (gi o 2), .int .i64 (gi o 3)]] W fun e w2 => e = .returned (.pointer (some ⟨p, (gi o 3).toNat, none⟩)) ∧ Below W.heap.size W w2) := Lib.hid fun W q => by
          have := on_any (w := W) (q.trans hxr) hb (show gi o 3 = ((gi o 3).toNat : Int) from (Int.toNat_of_nonneg q0).symm) kn hs
          simpa using this
        have HPUT := Lib.hid put
        have HRU := Lib.hid hru
        have HCU := Lib.hid hcu
        have HFU := Lib.hid hfu
        have HS2 := Lib.hid (And.intro s2 (And.intro ns2 (And.intro ns2g (And.intro sp pg))))
        have HSL := Lib.hid hsl
        have HNN := Lib.hid hn
        clear put hru hcu hfu s2 ns2 ns2g sp pg hsl hn hxr hs kn
        have hlp3 := code_lp HCM.out (by omega)
        clear hk
        obtain ⟨y0, y1, y2, y3, y4, y5, y6, y7⟩ := E2.out.cells
        rw [HKD.out] at y0
        go_wp2_with fail
        refine (HON.out _ rfl).mono ?_
        rintro e w3 ⟨rfl, hq3⟩
        have r3 := (hq3.cell (p := ⟨p, (gi o 3).toNat, none⟩) hpW).trans HCU.out
        have hg3 := hq3.block g hgW
        have HQ3 := Lib.hid hq3
        have E3 := E2.out.below hq3
        clear y0 y1 y2 y3 y4 y5 y6 y7
        obtain ⟨y0, y1, y2, y3, y4, y5, y6, y7⟩ := E3.cells
        rw [HKD.out] at y0
        clear hq3
        go_wp2_with fail
        refine (HON.out _ hg3).mono ?_
        rintro e w4 ⟨rfl, hq4⟩
        have b4 : Below w2.heap.size w2 w4 := HQ3.out.trans (hq4.mono HQ3.out.size)
        have r4 := (b4.cell (p := ⟨p, (gi o 3).toNat, none⟩) hpW).trans HCU.out
        have f4 := (b4.frozen (p := ⟨p, (gi o 3).toNat, none⟩) hpW).trans HFU.out
        have E4 := E3.below hq4
        clear y0 y1 y2 y3 y4 y5 y6 y7
        obtain ⟨y0, y1, y2, y3, y4, y5, y6, y7⟩ := E4.cells
        rw [HKD.out] at y0
        have h5 := HPUT.out (.slice none 0 0) [] w4 (fun _ => False) ⟨World.ownsRow_nil _ _ _ _, by simp [Value.ownBlock]⟩ (fun j q => q.elim) (ChgS.of_below b4)
        have hc5 : ChgS (Tn S (w.heap.size + 1) w2) w2 (w4.setCell ⟨p, (gi o 3).toNat, none⟩ (.slice none 0 0)) := ChgS.setC (ChgS.of_below b4) _ HS2.out.2.2.2.1
        have hru5 : (rw_ (.slice UA (m.on (gi o 2) (gi o 3)).length uc) (m.on (gi o 2) (gi o 3))).p (w4.setCell ⟨p, (gi o 3).toNat, none⟩ (.slice none 0 0)) S2 := rw_keep HRU.out fun j q => (Below.heap_setCell _ _ _ _ (fun e => HS2.out.2.1 (by simp only at e; rw [← e]; exact q))).trans (b4.block j (E2.out.tlt j (HS2.out.1 j q)))
        have hz5 : w2.heap.size ≤ (w4.setCell ⟨p, (gi o 3).toNat, none⟩ (.slice none 0 0)).heap.size := by have := b4.size; simpa [World.setCell] using this
        have H5 := Lib.hid h5
        have HC5 := Lib.hid hc5
        have HRU5 := Lib.hid hru5
        have HZ5 := Lib.hid hz5
        clear h5 hc5 hru5 hz5 b4 hq4 E3 E4 hg3 r3
        go_wp2_with fail
        have hl := loop_any (w := w4.setCell ⟨p, (gi o 3).toNat, none⟩ (.slice none 0 0)) (S := fun j => (Tn S (w.heap.size + 1) w2 j ∧ ¬ S2 j) ∨ False) (Sp := S2) (ps := m.on (gi o 2) (gi o 3)) H5.out (fun j q => by
            rcases q with q | q
            · exact Nat.lt_of_lt_of_le (E2.out.tlt j q.1) HZ5.out
            · exact q.elim) hb q0 (by rw [sd_put_len]; exact HOK.out.sdlt HNN.out) (by rw [(put_parts _ _ _ _).2.2.2.1]; omega) (by
            have e : (m.put (gi o 2) (gi o 3) []).mine o = [] := on_put_self m HOK.out HNN.out []
            rw [e]; simp) HRU5.out (fun j q => Nat.lt_of_lt_of_le (E2.out.tlt j (HS2.out.1 j q)) HZ5.out) (fun j q q2 => by
            rcases q2 with q2 | q2
            · exact q2.2 q
            · exact q2) (by omega)
        unfold op8 at hl
        rw [HKD.out] at hl
        refine hl.mono ?_
        clear hl
        rintro e w6 ⟨rfl, hx6, hc6⟩
        obtain ⟨M6, hM6⟩ : ∃ x, x = (m.put (gi o 2) (gi o 3) []).looped o (m.on (gi o 2) (gi o 3)) := ⟨_, rfl⟩
        rw [← hM6] at hx6
        have hz6 := hc6.size
        have E6 := Lib.hid (E2.out.step (hx6.mono fun j q => by
            have := HZ5.out
            rcases q with (q | q) | q
            · exact .inl q.1
            · exact q.elim
            · exact .inr ⟨by omega, q.2⟩) (HC5.out.then hc6 fun j hj q => by
            rcases q with q | q
            · exact q.1
            · exact q.elim))
        clear y0 y1 y2 y3 y4 y5 y6 y7
        have hpp := put_parts m (gi o 2) (gi o 3) []
        have hpp2 := put_parts (m.put (gi o 2) (gi o 3) []) (gi o 2) (gi o 3) ((m.put (gi o 2) (gi o 3) []).mine o ++ [(m.put (gi o 2) (gi o 3) []).n])
        have hcr6 : M6.cr.length = 4 := by rw [hM6]; show ((m.put (gi o 2) (gi o 3) []).put (gi o 2) (gi o 3) _).cr.length = 4; rw [hpp2.2.2.1, hpp.2.2.1]; exact HOK.out.cr
        have hrk6 : -3 ≤ M6.rk ∧ M6.rk ≤ 3 := by
          have e : M6.rk = m.rk := by rw [hM6]; show ((m.put (gi o 2) (gi o 3) []).put (gi o 2) (gi o 3) _).rk = m.rk; rw [hpp2.2.1, hpp.2.1]
          rw [e]; exact hrk
        have HM6 := Lib.hid hM6
        clear hM6 hpp hpp2 hx6 hc6 hz6 r4 f4
        have HEXE : Hid (exeM m o = M6.setAt o) := Lib.hid (by unfold exeM; rw [if_pos HKD.out, HM6.out]; rfl)
        obtain ⟨y0, y1, y2, y3, y4, y5, y6, y7⟩ := E6.out.cells
        rw [HKD.out] at y0
        go_wp2_with fail
        refine (mk_val (k := 1) (b := true) rfl _).mono ?_
        rintro e wz ⟨rfl, rfl⟩
        obtain ⟨cf, cb, cl, cdd, cp, cn, ccap, hxc, hcn, -, spc, -, k0, k1, f0, f1⟩ := E6.out.bx.cars Kc (by omega)
        subst hcn
        have hgW := heap_lt hxc
        have hcpW := E6.out.tlt cp spc
        have hboW : w.heap.size < w6.heap.size := by have := E6.out.sz; omega
        have HXC := Lib.hid hxc
        have HK1 := Lib.hid k1
        have HF1 := Lib.hid f1
        have hcnot : ¬ cp = w.heap.size := fun e => E6.out.not (e ▸ spc)
        clear k0 k1 f0 f1 hxc spc
        rcases hd with hd | hd
        · have HD := Lib.hid hd
          have HK28 := Lib.hid (fun (w' : World) (q : Below w6.heap.size w6 w') => show (w'.cell? ⟨w.heap.size, 6, none⟩ = some (.int .i64 ((Kc : Int) + 1)) ∧ w'.cell? ⟨w.heap.size, 2, none⟩ = some (.int .i64 (gi o 2)) ∧ w'.cell? ⟨w.heap.size, 3, none⟩ = some (.int .i64 (gi o 3)) ∧ w'.cell? ⟨w.heap.size, 1, none⟩ = some (.int .i64 (1))) ∧ w'.cell? ⟨g, 1, none⟩ = some (.int .i64 M6.rk) ∧ w'.cell? ⟨g, 4, none⟩ = some (.slice (some ⟨cp, 0, none⟩) M6.cr.length ccap) from
            ⟨⟨by rw [← HKK.out, q.cell hboW]; exact E6.out.cells.2.2.2.2.2.2.1, by rw [q.cell hboW]; exact E6.out.cells.2.2.1, by rw [q.cell hboW]; exact E6.out.cells.2.2.2.1, by rw [← HD.out, q.cell hboW]; exact E6.out.cells.2.1⟩, by rw [q.cell hgW]; exact (box7 HXC.out).1.2.1, by rw [q.cell hgW]; exact (box7 HXC.out).1.2.2.2.2.1⟩)
          obtain ⟨x0, x1⟩ := plc_bd (b := gi o 2) (a := gi o 3) (r := M6.rk) ⟨q0, q1⟩ hrk6
          have HPL := Lib.hid (fun W => iplace_any (gi o 2) (gi o 3) M6.rk W ⟨q0, q1⟩ hrk6)
          generalize hX : plc (gi o 2) (gi o 3) M6.rk = X at *
          have HX := Lib.hid hX
          rw [hd] at y1
          have hw2 : IntKind.i64.wrap 2 = 2 := by decide
          have hw1 : IntKind.i64.wrap 1 = 1 := by decide
          have hw0 : IntKind.i64.wrap 0 = 0 := by decide
          have hwx : IntKind.i64.wrap (X + 1) = X + 1 := IntWalk.i64_in _ (by omega)
          have hwy : IntKind.i64.wrap X = X := IntWalk.i64_in _ (by omega)
          clear hX hd
          go_wp2_with fail
          refine wp_region_z (fun w' => (w'.cell? ⟨w.heap.size, 6, none⟩ = some (.int .i64 ((Kc : Int) + 1)) ∧ w'.cell? ⟨w.heap.size, 2, none⟩ = some (.int .i64 (gi o 2)) ∧ w'.cell? ⟨w.heap.size, 3, none⟩ = some (.int .i64 (gi o 3)) ∧ w'.cell? ⟨w.heap.size, 1, none⟩ = some (.int .i64 (1))) ∧ w'.cell? ⟨g, 1, none⟩ = some (.int .i64 M6.rk) ∧ w'.cell? ⟨g, 4, none⟩ = some (.slice (some ⟨cp, 0, none⟩) M6.cr.length ccap)) 21 (by kernel_rfl) (HK28.out _ (Below.refl _ _).drew) (fun hH0 => ?_)
          refine wpZ_take 0 23 (u := ?_) rfl (by kernel_rfl) (fun _ _ _ h => h) ⟨by rfl, ?_⟩ hH0 ?_
          rotate_left
          · intro w hSw; (try dsimp only at hSw); go_simp; (first | done | with_reducible rfl)
          try simp only [Act.put, sb1, sb2, sb3]
          refine wpZ_take 1 23 (u := ?_) rfl (by kernel_rfl) (fun _ _ _ h => h) ⟨by rfl, ?_⟩ hH0 ?_
          rotate_left
          · intro w hSw; (try dsimp only at hSw); go_simp; (first | done | with_reducible rfl)
          try simp only [Act.put, sb1, sb2, sb3]
          refine wpZ_take 2 23 (u := ?_) rfl (by kernel_rfl) (fun _ _ _ h => h) ⟨by rfl, ?_⟩ hH0 ?_
          rotate_left
          · intro w hSw; (try dsimp only at hSw); go_simp; (first | done | with_reducible rfl)
          try simp only [Act.put, sb1, sb2, sb3]
          refine wpZ_take 3 23 (u := ?_) rfl (by kernel_rfl) (fun _ _ _ h => h) ⟨by rfl, ?_⟩ hH0 ?_
          rotate_left
          · intro w hSw; (try dsimp only at hSw); go_simp; (first | done | with_reducible rfl)
          try simp only [Act.put, sb1, sb2, sb3]
          refine wpZ_take 4 23 (u := ?_) rfl (by kernel_rfl) (fun _ _ _ h => h) ⟨by rfl, ?_⟩ hH0 ?_
          rotate_left
          · intro w hSw; (try dsimp only at hSw); go_simp; (first | done | with_reducible rfl)
          try simp only [Act.put, sb1, sb2, sb3]
          refine wpZ_take 5 23 (u := ?_) rfl (by kernel_rfl) (fun _ _ _ h => h) ⟨by rfl, ?_⟩ hH0 ?_
          rotate_left
          · intro w hSw; (try dsimp only at hSw); go_simp; (first | done | with_reducible rfl)
          try simp only [Act.put, sb1, sb2, sb3]
          refine wpZ_take 6 23 (u := ?_) rfl (by kernel_rfl) (fun _ _ _ h => h) ⟨by rfl, ?_⟩ hH0 ?_
          rotate_left
          · intro w hSw; (try dsimp only at hSw); go_simp; (first | done | with_reducible rfl)
          try simp only [Act.put, sb1, sb2, sb3]
          refine wpZ_take 7 23 (u := ?_) rfl (by kernel_rfl) (fun _ _ _ h => h) ⟨by rfl, ?_⟩ hH0 ?_
          rotate_left
          · intro w hSw; (try dsimp only at hSw); go_simp; (first | done | with_reducible rfl)
          try simp only [Act.put, sb1, sb2, sb3]
          refine wpZ_take 8 23 (u := ?_) rfl (by kernel_rfl) (fun _ _ _ h => h) ⟨by rfl, ?_⟩ hH0 ?_
          rotate_left
          · intro w hSw; (try dsimp only at hSw); go_simp; (first | done | with_reducible rfl)
          try simp only [Act.put, sb1, sb2, sb3]
          refine wpZ_take 9 23 (u := ?_) rfl (by kernel_rfl) (fun _ _ _ h => h) ⟨by rfl, ?_⟩ hH0 ?_
          rotate_left
          · intro w hSw; (try dsimp only at hSw); go_simp; (first | done | with_reducible rfl)
          try simp only [Act.put, sb1, sb2, sb3]
          refine wpZ_take 10 23 (u := ?_) rfl (by kernel_rfl) (fun _ _ _ h => h) ⟨by rfl, ?_⟩ hH0 ?_
          rotate_left
          · intro w hSw; (try dsimp only at hSw); go_simp; (first | done | with_reducible rfl)
          try simp only [Act.put, sb1, sb2, sb3]
          refine wpZ_take 11 23 (u := ?_) rfl (by kernel_rfl) (fun _ _ _ h => h) ⟨by rfl, ?_⟩ hH0 ?_
          rotate_left
          · intro w hSw; (try dsimp only at hSw); go_simp; (first | done | with_reducible rfl)
          try simp only [Act.put, sb1, sb2, sb3]
          refine wpZ_take 12 23 (u := ?_) rfl (by kernel_rfl) (fun _ _ _ h => h) ⟨by rfl, ?_⟩ hH0 ?_
          rotate_left
          · intro w hSw; (try dsimp only at hSw); go_simp; (first | done | with_reducible rfl)
          try simp only [Act.put, sb1, sb2, sb3]
          refine wpZ_take 14 23 (u := ?_) rfl (by kernel_rfl) (fun _ _ _ h => h) ⟨by rfl, ?_⟩ hH0 ?_
          rotate_left
          · intro w hSw; (try dsimp only at hSw); go_simp; (first | done | with_reducible rfl)
          try simp only [Act.put, sb1, sb2, sb3]
          refine wpZ_take 15 23 (u := ?_) rfl (by kernel_rfl) (fun _ _ _ h => h) ⟨by rfl, ?_⟩ hH0 ?_
          rotate_left
          · intro w hSw; (try dsimp only at hSw); go_simp; (first | done | with_reducible rfl)
          try simp only [Act.put, sb1, sb2, sb3]
          refine wpZ_take 16 23 (u := ?_) rfl (by kernel_rfl) (fun _ _ _ h => h) ⟨by rfl, ?_⟩ hH0 ?_
          rotate_left
          · intro w hSw; (try dsimp only at hSw); go_simp; (first | done | with_reducible rfl)
          try simp only [Act.put, sb1, sb2, sb3]
          refine wpZ_take 17 23 (u := ?_) rfl (by kernel_rfl) (fun _ _ _ h => h) ⟨by rfl, ?_⟩ hH0 ?_
          rotate_left
          · intro w hSw; (try dsimp only at hSw); go_simp; (first | done | with_reducible rfl)
          try simp only [Act.put, sb1, sb2, sb3]
          refine wpZ_only 13 rfl (by kernel_rfl) (by rfl) (fun K hK => ?_)
          go_simp
          go_at_call 96
          refine (HPL.out _).mono ?_
          rintro e w8 ⟨rfl, hq8⟩
          have b8 : Below w6.heap.size w6 w8 := Below.trans (Below.refl _ _).drew (hq8.mono (Nat.le_refl _))
          go_wp2_with fail
          refine hK.out _ _ ?_ (fun hH1 => ?_)
          · exact HK28.out _ b8
          clear hK K hH0
          try simp only [Act.put, sb1, sb2, sb3]
          refine wpZ_take 18 23 (u := ?_) rfl (by kernel_rfl) (fun _ _ _ h => h) ⟨by rfl, ?_⟩ hH1 ?_
          rotate_left
          · intro w hSw; (try dsimp only at hSw); go_simp; (first | done | with_reducible rfl)
          try simp only [Act.put, sb1, sb2, sb3]
          refine wpZ_take 19 23 (u := ?_) rfl (by kernel_rfl) (fun _ _ _ h => h) ⟨by rfl, ?_⟩ hH1 ?_
          rotate_left
          · intro w hSw; (try dsimp only at hSw); go_simp; (first | done | with_reducible rfl)
          try simp only [Act.put, sb1, sb2, sb3]
          refine wpZ_take 20 23 (u := ?_) rfl (by kernel_rfl) (fun _ _ _ h => h) ⟨by rfl, ?_⟩ hH1 ?_
          rotate_left
          · intro w hSw; (try dsimp only at hSw); go_simp; (first | done | with_reducible rfl)
          try simp only [Act.put, sb1, sb2, sb3]
          refine wpZ_last rfl (by kernel_rfl) (by kernel_rfl) (by rfl) (fun K hK => ?_)
          have k8 : w8.cell? ⟨cp, Kc * 2 + 1, none⟩ = _ := (b8.cell (p := ⟨cp, Kc * 2 + 1, none⟩) hcpW).trans HK1.out
          have f8 : w8.frozen? ⟨cp, Kc * 2 + 1, none⟩ = false := (b8.frozen (p := ⟨cp, Kc * 2 + 1, none⟩) hcpW).trans HF1.out
          go_simp
          refine hK.out _ _ ?_
          clear hK K hH1
          have E8 := E6.out.below b8
          obtain ⟨h9, ch9, -⟩ := E8.bx.carX (keep_fwd b8 HXC.out) Kc (by omega) (X + 1)
          have E9 := Lib.hid (E8.step (h9.mono fun j q => .inl q) ch9)
          have HEQ : Hid (M6.setAt o = { M6 with cr := M6.cr.set Kc ((gc M6.cr Kc).1, X + 1) }) := Lib.hid (setAt_eqK HKK.out _ (by rw [HX.out, HD.out]; rfl))
          clear E8 h9 ch9 k8 f8 b8 hq8 HK28
          generalize w8.setCell ⟨cp, Kc * 2 + 1, none⟩ (.int .i64 (X + 1)) = w9 at *
          go_wp2
          go_ret
          exact ⟨rfl, by rw [HEXE.out, HEQ.out]; exact E9.out.fin, E9.out.ch⟩
        · have HD := Lib.hid hd
          have HK28 := Lib.hid (fun (w' : World) (q : Below w6.heap.size w6 w') => show (w'.cell? ⟨w.heap.size, 6, none⟩ = some (.int .i64 ((Kc : Int) + 1)) ∧ w'.cell? ⟨w.heap.size, 2, none⟩ = some (.int .i64 (gi o 2)) ∧ w'.cell? ⟨w.heap.size, 3, none⟩ = some (.int .i64 (gi o 3)) ∧ w'.cell? ⟨w.heap.size, 1, none⟩ = some (.int .i64 (-1))) ∧ w'.cell? ⟨g, 1, none⟩ = some (.int .i64 M6.rk) ∧ w'.cell? ⟨g, 4, none⟩ = some (.slice (some ⟨cp, 0, none⟩) M6.cr.length ccap) from
            ⟨⟨by rw [← HKK.out, q.cell hboW]; exact E6.out.cells.2.2.2.2.2.2.1, by rw [q.cell hboW]; exact E6.out.cells.2.2.1, by rw [q.cell hboW]; exact E6.out.cells.2.2.2.1, by rw [← HD.out, q.cell hboW]; exact E6.out.cells.2.1⟩, by rw [q.cell hgW]; exact (box7 HXC.out).1.2.1, by rw [q.cell hgW]; exact (box7 HXC.out).1.2.2.2.2.1⟩)
          obtain ⟨x0, x1⟩ := plc_bd (b := gi o 2) (a := gi o 3) (r := M6.rk) ⟨q0, q1⟩ hrk6
          have HPL := Lib.hid (fun W => iplace_any (gi o 2) (gi o 3) M6.rk W ⟨q0, q1⟩ hrk6)
          generalize hX : plc (gi o 2) (gi o 3) M6.rk = X at *
          have HX := Lib.hid hX
          rw [hd] at y1
          have hw2 : IntKind.i64.wrap 2 = 2 := by decide
          have hw1 : IntKind.i64.wrap 1 = 1 := by decide
          have hw0 : IntKind.i64.wrap 0 = 0 := by decide
          have hwx : IntKind.i64.wrap (X + 1) = X + 1 := IntWalk.i64_in _ (by omega)
          have hwy : IntKind.i64.wrap X = X := IntWalk.i64_in _ (by omega)
          clear hX hd
          go_wp2_with fail
          refine wp_region_z (fun w' => (w'.cell? ⟨w.heap.size, 6, none⟩ = some (.int .i64 ((Kc : Int) + 1)) ∧ w'.cell? ⟨w.heap.size, 2, none⟩ = some (.int .i64 (gi o 2)) ∧ w'.cell? ⟨w.heap.size, 3, none⟩ = some (.int .i64 (gi o 3)) ∧ w'.cell? ⟨w.heap.size, 1, none⟩ = some (.int .i64 (-1))) ∧ w'.cell? ⟨g, 1, none⟩ = some (.int .i64 M6.rk) ∧ w'.cell? ⟨g, 4, none⟩ = some (.slice (some ⟨cp, 0, none⟩) M6.cr.length ccap)) 21 (by kernel_rfl) (HK28.out _ (Below.refl _ _).drew) (fun hH0 => ?_)
          refine wpZ_take 0 23 (u := ?_) rfl (by kernel_rfl) (fun _ _ _ h => h) ⟨by rfl, ?_⟩ hH0 ?_
          rotate_left
          · intro w hSw; (try dsimp only at hSw); go_simp; (first | done | with_reducible rfl)
          try simp only [Act.put, sb1, sb2, sb3]
          refine wpZ_take 1 23 (u := ?_) rfl (by kernel_rfl) (fun _ _ _ h => h) ⟨by rfl, ?_⟩ hH0 ?_
          rotate_left
          · intro w hSw; (try dsimp only at hSw); go_simp; (first | done | with_reducible rfl)
          try simp only [Act.put, sb1, sb2, sb3]
          refine wpZ_take 2 23 (u := ?_) rfl (by kernel_rfl) (fun _ _ _ h => h) ⟨by rfl, ?_⟩ hH0 ?_
          rotate_left
          · intro w hSw; (try dsimp only at hSw); go_simp; (first | done | with_reducible rfl)
          try simp only [Act.put, sb1, sb2, sb3]
          refine wpZ_take 3 23 (u := ?_) rfl (by kernel_rfl) (fun _ _ _ h => h) ⟨by rfl, ?_⟩ hH0 ?_
          rotate_left
          · intro w hSw; (try dsimp only at hSw); go_simp; (first | done | with_reducible rfl)
          try simp only [Act.put, sb1, sb2, sb3]
          refine wpZ_take 4 23 (u := ?_) rfl (by kernel_rfl) (fun _ _ _ h => h) ⟨by rfl, ?_⟩ hH0 ?_
          rotate_left
          · intro w hSw; (try dsimp only at hSw); go_simp; (first | done | with_reducible rfl)
          try simp only [Act.put, sb1, sb2, sb3]
          refine wpZ_take 5 23 (u := ?_) rfl (by kernel_rfl) (fun _ _ _ h => h) ⟨by rfl, ?_⟩ hH0 ?_
          rotate_left
          · intro w hSw; (try dsimp only at hSw); go_simp; (first | done | with_reducible rfl)
          try simp only [Act.put, sb1, sb2, sb3]
          refine wpZ_take 6 23 (u := ?_) rfl (by kernel_rfl) (fun _ _ _ h => h) ⟨by rfl, ?_⟩ hH0 ?_
          rotate_left
          · intro w hSw; (try dsimp only at hSw); go_simp; (first | done | with_reducible rfl)
          try simp only [Act.put, sb1, sb2, sb3]
          refine wpZ_take 7 23 (u := ?_) rfl (by kernel_rfl) (fun _ _ _ h => h) ⟨by rfl, ?_⟩ hH0 ?_
          rotate_left
          · intro w hSw; (try dsimp only at hSw); go_simp; (first | done | with_reducible rfl)
          try simp only [Act.put, sb1, sb2, sb3]
          refine wpZ_take 8 23 (u := ?_) rfl (by kernel_rfl) (fun _ _ _ h => h) ⟨by rfl, ?_⟩ hH0 ?_
          rotate_left
          · intro w hSw; (try dsimp only at hSw); go_simp; (first | done | with_reducible rfl)
          try simp only [Act.put, sb1, sb2, sb3]
          refine wpZ_take 9 23 (u := ?_) rfl (by kernel_rfl) (fun _ _ _ h => h) ⟨by rfl, ?_⟩ hH0 ?_
          rotate_left
          · intro w hSw; (try dsimp only at hSw); go_simp; (first | done | with_reducible rfl)
          try simp only [Act.put, sb1, sb2, sb3]
          refine wpZ_take 10 23 (u := ?_) rfl (by kernel_rfl) (fun _ _ _ h => h) ⟨by rfl, ?_⟩ hH0 ?_
          rotate_left
          · intro w hSw; (try dsimp only at hSw); go_simp; (first | done | with_reducible rfl)
          try simp only [Act.put, sb1, sb2, sb3]
          refine wpZ_take 11 23 (u := ?_) rfl (by kernel_rfl) (fun _ _ _ h => h) ⟨by rfl, ?_⟩ hH0 ?_
          rotate_left
          · intro w hSw; (try dsimp only at hSw); go_simp; (first | done | with_reducible rfl)
          try simp only [Act.put, sb1, sb2, sb3]
          refine wpZ_take 12 23 (u := ?_) rfl (by kernel_rfl) (fun _ _ _ h => h) ⟨by rfl, ?_⟩ hH0 ?_
          rotate_left
          · intro w hSw; (try dsimp only at hSw); go_simp; (first | done | with_reducible rfl)
          try simp only [Act.put, sb1, sb2, sb3]
          refine wpZ_take 14 23 (u := ?_) rfl (by kernel_rfl) (fun _ _ _ h => h) ⟨by rfl, ?_⟩ hH0 ?_
          rotate_left
          · intro w hSw; (try dsimp only at hSw); go_simp; (first | done | with_reducible rfl)
          try simp only [Act.put, sb1, sb2, sb3]
          refine wpZ_take 15 23 (u := ?_) rfl (by kernel_rfl) (fun _ _ _ h => h) ⟨by rfl, ?_⟩ hH0 ?_
          rotate_left
          · intro w hSw; (try dsimp only at hSw); go_simp; (first | done | with_reducible rfl)
          try simp only [Act.put, sb1, sb2, sb3]
          refine wpZ_take 16 23 (u := ?_) rfl (by kernel_rfl) (fun _ _ _ h => h) ⟨by rfl, ?_⟩ hH0 ?_
          rotate_left
          · intro w hSw; (try dsimp only at hSw); go_simp; (first | done | with_reducible rfl)
          try simp only [Act.put, sb1, sb2, sb3]
          refine wpZ_take 17 23 (u := ?_) rfl (by kernel_rfl) (fun _ _ _ h => h) ⟨by rfl, ?_⟩ hH0 ?_
          rotate_left
          · intro w hSw; (try dsimp only at hSw); go_simp; (first | done | with_reducible rfl)
          try simp only [Act.put, sb1, sb2, sb3]
          refine wpZ_only 13 rfl (by kernel_rfl) (by rfl) (fun K hK => ?_)
          go_simp
          go_at_call 96
          refine (HPL.out _).mono ?_
          rintro e w8 ⟨rfl, hq8⟩
          have b8 : Below w6.heap.size w6 w8 := Below.trans (Below.refl _ _).drew (hq8.mono (Nat.le_refl _))
          go_wp2_with fail
          refine hK.out _ _ ?_ (fun hH1 => ?_)
          · exact HK28.out _ b8
          clear hK K hH0
          try simp only [Act.put, sb1, sb2, sb3]
          refine wpZ_take 18 23 (u := ?_) rfl (by kernel_rfl) (fun _ _ _ h => h) ⟨by rfl, ?_⟩ hH1 ?_
          rotate_left
          · intro w hSw; (try dsimp only at hSw); go_simp; (first | done | with_reducible rfl)
          try simp only [Act.put, sb1, sb2, sb3]
          refine wpZ_take 19 23 (u := ?_) rfl (by kernel_rfl) (fun _ _ _ h => h) ⟨by rfl, ?_⟩ hH1 ?_
          rotate_left
          · intro w hSw; (try dsimp only at hSw); go_simp; (first | done | with_reducible rfl)
          try simp only [Act.put, sb1, sb2, sb3]
          refine wpZ_take 20 23 (u := ?_) rfl (by kernel_rfl) (fun _ _ _ h => h) ⟨by rfl, ?_⟩ hH1 ?_
          rotate_left
          · intro w hSw; (try dsimp only at hSw); go_simp; (first | done | with_reducible rfl)
          try simp only [Act.put, sb1, sb2, sb3]
          refine wpZ_last rfl (by kernel_rfl) (by kernel_rfl) (by rfl) (fun K hK => ?_)
          have k8 : w8.cell? ⟨cp, Kc * 2 + 1, none⟩ = _ := (b8.cell (p := ⟨cp, Kc * 2 + 1, none⟩) hcpW).trans HK1.out
          have f8 : w8.frozen? ⟨cp, Kc * 2 + 1, none⟩ = false := (b8.frozen (p := ⟨cp, Kc * 2 + 1, none⟩) hcpW).trans HF1.out
          go_simp
          refine hK.out _ _ ?_
          clear hK K hH1
          have E8 := E6.out.below b8
          obtain ⟨h9, ch9, -⟩ := E8.bx.carX (keep_fwd b8 HXC.out) Kc (by omega) (X)
          have E9 := Lib.hid (E8.step (h9.mono fun j q => .inl q) ch9)
          have HEQ : Hid (M6.setAt o = { M6 with cr := M6.cr.set Kc ((gc M6.cr Kc).1, X) }) := Lib.hid (setAt_eqK HKK.out _ (by rw [HX.out, HD.out]; simp))
          clear E8 h9 ch9 k8 f8 b8 hq8 HK28
          generalize w8.setCell ⟨cp, Kc * 2 + 1, none⟩ (.int .i64 (X)) = w9 at *
          go_wp2
          go_ret
          exact ⟨rfl, by rw [HEXE.out, HEQ.out]; exact E9.out.fin, E9.out.ch⟩
      · have HKD := Lib.hid hk
        obtain ⟨Kc, hK⟩ : ∃ Kc : Nat, gi o 6 = (Kc : Int) + 1 := ⟨(gi o 6 - 1).toNat, by omega⟩
        have hKl : Kc < m.cr.length := by have := HOK.out.cr; omega
        have hK3 : (Kc : Int) ≤ 3 := by omega
        have hK0 : (0 : Int) ≤ (Kc : Int) := by omega
        have hK4 : (Kc : Int) < 4 := by omega
        have hKw : IntKind.i64.wrap (Kc : Int) = (Kc : Int) := IntWalk.i64_in _ (by omega)
        have HKK := Lib.hid hK
        clear hK c1 c2
        have hlp3 := code_lp HCM.out (by omega)
        have hn : m.ndl (gi o 2) (gi o 3) := ⟨hb, q0, hf1⟩
        have HSD := Lib.hid (HOK.out.sdlt hn)
        have hrl : (m.mine o).length ≤ 4 := on_len HOK.out hn
        clear hk hn
        obtain ⟨y0, y1, y2, y3, y4, y5, y6, y7⟩ := E2.out.cells
        rw [HKD.out] at y0
        go_wp2_with fail
        have hl := loop_any (w := w2) (S := Tn S (w.heap.size + 1) w2) (Sp := fun _ => False) (ps := []) (pv := .slice none 0 0) E2.out.bx E2.out.tlt hb q0 HSD.out (by omega) hrl ⟨World.ownsRow_nil _ _ _ _, by simp [Value.ownBlock]⟩ (fun j q => q.elim) (fun j q => q.elim) (by simp)
        unfold op8 at hl
        rw [HKD.out] at hl
        refine hl.mono ?_
        clear hl
        rintro e w6 ⟨rfl, hx6, hc6⟩
        obtain ⟨M6, hM6⟩ : ∃ x, x = m.looped o [] := ⟨_, rfl⟩
        rw [← hM6] at hx6
        have E6 := Lib.hid (E2.out.step hx6 hc6)
        clear y0 y1 y2 y3 y4 y5 y6 y7
        have hpp := put_parts m (gi o 2) (gi o 3) (m.mine o ++ [m.n])
        have hcr6 : M6.cr.length = 4 := by rw [hM6]; show (m.put (gi o 2) (gi o 3) (m.mine o ++ [m.n])).cr.length = 4; rw [hpp.2.2.1]; exact HOK.out.cr
        have hrk6 : -3 ≤ M6.rk ∧ M6.rk ≤ 3 := by rw [hM6]; show -3 ≤ (m.put (gi o 2) (gi o 3) (m.mine o ++ [m.n])).rk ∧ (m.put (gi o 2) (gi o 3) (m.mine o ++ [m.n])).rk ≤ 3; rw [hpp.2.1]; exact hrk
        have HM6 := Lib.hid hM6
        clear hM6 hpp hx6 hc6
        have HEXE : Hid (exeM m o = M6.setAt o) := Lib.hid (by unfold exeM; rw [if_neg (by rw [HKD.out]; decide), if_pos HKD.out, HM6.out])
        obtain ⟨y0, y1, y2, y3, y4, y5, y6, y7⟩ := E6.out.cells
        rw [HKD.out] at y0
        go_wp2_with fail
        refine (mk_val (k := 2) (b := true) rfl _).mono ?_
        rintro e wz ⟨rfl, rfl⟩
        obtain ⟨cf, cb, cl, cdd, cp, cn, ccap, hxc, hcn, -, spc, -, k0, k1, f0, f1⟩ := E6.out.bx.cars Kc (by omega)
        subst hcn
        have hgW := heap_lt hxc
        have hcpW := E6.out.tlt cp spc
        have hboW : w.heap.size < w6.heap.size := by have := E6.out.sz; omega
        have HXC := Lib.hid hxc
        have HK1 := Lib.hid k1
        have HF1 := Lib.hid f1
        have hcnot : ¬ cp = w.heap.size := fun e => E6.out.not (e ▸ spc)
        clear k0 k1 f0 f1 hxc spc
        rcases hd with hd | hd
        · have HD := Lib.hid hd
          have HK28 := Lib.hid (fun (w' : World) (q : Below w6.heap.size w6 w') => show (w'.cell? ⟨w.heap.size, 6, none⟩ = some (.int .i64 ((Kc : Int) + 1)) ∧ w'.cell? ⟨w.heap.size, 2, none⟩ = some (.int .i64 (gi o 2)) ∧ w'.cell? ⟨w.heap.size, 3, none⟩ = some (.int .i64 (gi o 3)) ∧ w'.cell? ⟨w.heap.size, 1, none⟩ = some (.int .i64 (1))) ∧ w'.cell? ⟨g, 1, none⟩ = some (.int .i64 M6.rk) ∧ w'.cell? ⟨g, 4, none⟩ = some (.slice (some ⟨cp, 0, none⟩) M6.cr.length ccap) from
            ⟨⟨by rw [← HKK.out, q.cell hboW]; exact E6.out.cells.2.2.2.2.2.2.1, by rw [q.cell hboW]; exact E6.out.cells.2.2.1, by rw [q.cell hboW]; exact E6.out.cells.2.2.2.1, by rw [← HD.out, q.cell hboW]; exact E6.out.cells.2.1⟩, by rw [q.cell hgW]; exact (box7 HXC.out).1.2.1, by rw [q.cell hgW]; exact (box7 HXC.out).1.2.2.2.2.1⟩)
          obtain ⟨x0, x1⟩ := plc_bd (b := gi o 2) (a := gi o 3) (r := M6.rk) ⟨q0, q1⟩ hrk6
          have HPL := Lib.hid (fun W => iplace_any (gi o 2) (gi o 3) M6.rk W ⟨q0, q1⟩ hrk6)
          generalize hX : plc (gi o 2) (gi o 3) M6.rk = X at *
          have HX := Lib.hid hX
          rw [hd] at y1
          have hw2 : IntKind.i64.wrap 2 = 2 := by decide
          have hw1 : IntKind.i64.wrap 1 = 1 := by decide
          have hw0 : IntKind.i64.wrap 0 = 0 := by decide
          have hwx : IntKind.i64.wrap (X + 1) = X + 1 := IntWalk.i64_in _ (by omega)
          have hwy : IntKind.i64.wrap X = X := IntWalk.i64_in _ (by omega)
          clear hX hd
          go_wp2_with fail
          refine wp_region_z (fun w' => (w'.cell? ⟨w.heap.size, 6, none⟩ = some (.int .i64 ((Kc : Int) + 1)) ∧ w'.cell? ⟨w.heap.size, 2, none⟩ = some (.int .i64 (gi o 2)) ∧ w'.cell? ⟨w.heap.size, 3, none⟩ = some (.int .i64 (gi o 3)) ∧ w'.cell? ⟨w.heap.size, 1, none⟩ = some (.int .i64 (1))) ∧ w'.cell? ⟨g, 1, none⟩ = some (.int .i64 M6.rk) ∧ w'.cell? ⟨g, 4, none⟩ = some (.slice (some ⟨cp, 0, none⟩) M6.cr.length ccap)) 21 (by kernel_rfl) (HK28.out _ (Below.refl _ _).drew) (fun hH0 => ?_)
          refine wpZ_take 0 23 (u := ?_) rfl (by kernel_rfl) (fun _ _ _ h => h) ⟨by rfl, ?_⟩ hH0 ?_
          rotate_left
          · intro w hSw; (try dsimp only at hSw); go_simp; (first | done | with_reducible rfl)
          try simp only [Act.put, sb1, sb2, sb3]
          refine wpZ_take 1 23 (u := ?_) rfl (by kernel_rfl) (fun _ _ _ h => h) ⟨by rfl, ?_⟩ hH0 ?_
          rotate_left
          · intro w hSw; (try dsimp only at hSw); go_simp; (first | done | with_reducible rfl)
          try simp only [Act.put, sb1, sb2, sb3]
          refine wpZ_take 2 23 (u := ?_) rfl (by kernel_rfl) (fun _ _ _ h => h) ⟨by rfl, ?_⟩ hH0 ?_
          rotate_left
          · intro w hSw; (try dsimp only at hSw); go_simp; (first | done | with_reducible rfl)
          try simp only [Act.put, sb1, sb2, sb3]
          refine wpZ_take 3 23 (u := ?_) rfl (by kernel_rfl) (fun _ _ _ h => h) ⟨by rfl, ?_⟩ hH0 ?_
          rotate_left
          · intro w hSw; (try dsimp only at hSw); go_simp; (first | done | with_reducible rfl)
          try simp only [Act.put, sb1, sb2, sb3]
          refine wpZ_take 4 23 (u := ?_) rfl (by kernel_rfl) (fun _ _ _ h => h) ⟨by rfl, ?_⟩ hH0 ?_
          rotate_left
          · intro w hSw; (try dsimp only at hSw); go_simp; (first | done | with_reducible rfl)
          try simp only [Act.put, sb1, sb2, sb3]
          refine wpZ_take 5 23 (u := ?_) rfl (by kernel_rfl) (fun _ _ _ h => h) ⟨by rfl, ?_⟩ hH0 ?_
          rotate_left
          · intro w hSw; (try dsimp only at hSw); go_simp; (first | done | with_reducible rfl)
          try simp only [Act.put, sb1, sb2, sb3]
          refine wpZ_take 6 23 (u := ?_) rfl (by kernel_rfl) (fun _ _ _ h => h) ⟨by rfl, ?_⟩ hH0 ?_
          rotate_left
          · intro w hSw; (try dsimp only at hSw); go_simp; (first | done | with_reducible rfl)
          try simp only [Act.put, sb1, sb2, sb3]
          refine wpZ_take 7 23 (u := ?_) rfl (by kernel_rfl) (fun _ _ _ h => h) ⟨by rfl, ?_⟩ hH0 ?_
          rotate_left
          · intro w hSw; (try dsimp only at hSw); go_simp; (first | done | with_reducible rfl)
          try simp only [Act.put, sb1, sb2, sb3]
          refine wpZ_take 8 23 (u := ?_) rfl (by kernel_rfl) (fun _ _ _ h => h) ⟨by rfl, ?_⟩ hH0 ?_
          rotate_left
          · intro w hSw; (try dsimp only at hSw); go_simp; (first | done | with_reducible rfl)
          try simp only [Act.put, sb1, sb2, sb3]
          refine wpZ_take 9 23 (u := ?_) rfl (by kernel_rfl) (fun _ _ _ h => h) ⟨by rfl, ?_⟩ hH0 ?_
          rotate_left
          · intro w hSw; (try dsimp only at hSw); go_simp; (first | done | with_reducible rfl)
          try simp only [Act.put, sb1, sb2, sb3]
          refine wpZ_take 10 23 (u := ?_) rfl (by kernel_rfl) (fun _ _ _ h => h) ⟨by rfl, ?_⟩ hH0 ?_
          rotate_left
          · intro w hSw; (try dsimp only at hSw); go_simp; (first | done | with_reducible rfl)
          try simp only [Act.put, sb1, sb2, sb3]
          refine wpZ_take 11 23 (u := ?_) rfl (by kernel_rfl) (fun _ _ _ h => h) ⟨by rfl, ?_⟩ hH0 ?_
          rotate_left
          · intro w hSw; (try dsimp only at hSw); go_simp; (first | done | with_reducible rfl)
          try simp only [Act.put, sb1, sb2, sb3]
          refine wpZ_take 12 23 (u := ?_) rfl (by kernel_rfl) (fun _ _ _ h => h) ⟨by rfl, ?_⟩ hH0 ?_
          rotate_left
          · intro w hSw; (try dsimp only at hSw); go_simp; (first | done | with_reducible rfl)
          try simp only [Act.put, sb1, sb2, sb3]
          refine wpZ_take 14 23 (u := ?_) rfl (by kernel_rfl) (fun _ _ _ h => h) ⟨by rfl, ?_⟩ hH0 ?_
          rotate_left
          · intro w hSw; (try dsimp only at hSw); go_simp; (first | done | with_reducible rfl)
          try simp only [Act.put, sb1, sb2, sb3]
          refine wpZ_take 15 23 (u := ?_) rfl (by kernel_rfl) (fun _ _ _ h => h) ⟨by rfl, ?_⟩ hH0 ?_
          rotate_left
          · intro w hSw; (try dsimp only at hSw); go_simp; (first | done | with_reducible rfl)
          try simp only [Act.put, sb1, sb2, sb3]
          refine wpZ_take 16 23 (u := ?_) rfl (by kernel_rfl) (fun _ _ _ h => h) ⟨by rfl, ?_⟩ hH0 ?_
          rotate_left
          · intro w hSw; (try dsimp only at hSw); go_simp; (first | done | with_reducible rfl)
          try simp only [Act.put, sb1, sb2, sb3]
          refine wpZ_take 17 23 (u := ?_) rfl (by kernel_rfl) (fun _ _ _ h => h) ⟨by rfl, ?_⟩ hH0 ?_
          rotate_left
          · intro w hSw; (try dsimp only at hSw); go_simp; (first | done | with_reducible rfl)
          try simp only [Act.put, sb1, sb2, sb3]
          refine wpZ_only 13 rfl (by kernel_rfl) (by rfl) (fun K hK => ?_)
          go_simp
          go_at_call 96
          refine (HPL.out _).mono ?_
          rintro e w8 ⟨rfl, hq8⟩
          have b8 : Below w6.heap.size w6 w8 := Below.trans (Below.refl _ _).drew (hq8.mono (Nat.le_refl _))
          go_wp2_with fail
          refine hK.out _ _ ?_ (fun hH1 => ?_)
          · exact HK28.out _ b8
          clear hK K hH0
          try simp only [Act.put, sb1, sb2, sb3]
          refine wpZ_take 18 23 (u := ?_) rfl (by kernel_rfl) (fun _ _ _ h => h) ⟨by rfl, ?_⟩ hH1 ?_
          rotate_left
          · intro w hSw; (try dsimp only at hSw); go_simp; (first | done | with_reducible rfl)
          try simp only [Act.put, sb1, sb2, sb3]
          refine wpZ_take 19 23 (u := ?_) rfl (by kernel_rfl) (fun _ _ _ h => h) ⟨by rfl, ?_⟩ hH1 ?_
          rotate_left
          · intro w hSw; (try dsimp only at hSw); go_simp; (first | done | with_reducible rfl)
          try simp only [Act.put, sb1, sb2, sb3]
          refine wpZ_take 20 23 (u := ?_) rfl (by kernel_rfl) (fun _ _ _ h => h) ⟨by rfl, ?_⟩ hH1 ?_
          rotate_left
          · intro w hSw; (try dsimp only at hSw); go_simp; (first | done | with_reducible rfl)
          try simp only [Act.put, sb1, sb2, sb3]
          refine wpZ_last rfl (by kernel_rfl) (by kernel_rfl) (by rfl) (fun K hK => ?_)
          have k8 : w8.cell? ⟨cp, Kc * 2 + 1, none⟩ = _ := (b8.cell (p := ⟨cp, Kc * 2 + 1, none⟩) hcpW).trans HK1.out
          have f8 : w8.frozen? ⟨cp, Kc * 2 + 1, none⟩ = false := (b8.frozen (p := ⟨cp, Kc * 2 + 1, none⟩) hcpW).trans HF1.out
          go_simp
          refine hK.out _ _ ?_
          clear hK K hH1
          have E8 := E6.out.below b8
          obtain ⟨h9, ch9, -⟩ := E8.bx.carX (keep_fwd b8 HXC.out) Kc (by omega) (X + 1)
          have E9 := Lib.hid (E8.step (h9.mono fun j q => .inl q) ch9)
          have HEQ : Hid (M6.setAt o = { M6 with cr := M6.cr.set Kc ((gc M6.cr Kc).1, X + 1) }) := Lib.hid (setAt_eqK HKK.out _ (by rw [HX.out, HD.out]; rfl))
          clear E8 h9 ch9 k8 f8 b8 hq8 HK28
          generalize w8.setCell ⟨cp, Kc * 2 + 1, none⟩ (.int .i64 (X + 1)) = w9 at *
          go_wp2
          go_ret
          exact ⟨rfl, by rw [HEXE.out, HEQ.out]; exact E9.out.fin, E9.out.ch⟩
        · have HD := Lib.hid hd
          have HK28 := Lib.hid (fun (w' : World) (q : Below w6.heap.size w6 w') => show (w'.cell? ⟨w.heap.size, 6, none⟩ = some (.int .i64 ((Kc : Int) + 1)) ∧ w'.cell? ⟨w.heap.size, 2, none⟩ = some (.int .i64 (gi o 2)) ∧ w'.cell? ⟨w.heap.size, 3, none⟩ = some (.int .i64 (gi o 3)) ∧ w'.cell? ⟨w.heap.size, 1, none⟩ = some (.int .i64 (-1))) ∧ w'.cell? ⟨g, 1, none⟩ = some (.int .i64 M6.rk) ∧ w'.cell? ⟨g, 4, none⟩ = some (.slice (some ⟨cp, 0, none⟩) M6.cr.length ccap) from
            ⟨⟨by rw [← HKK.out, q.cell hboW]; exact E6.out.cells.2.2.2.2.2.2.1, by rw [q.cell hboW]; exact E6.out.cells.2.2.1, by rw [q.cell hboW]; exact E6.out.cells.2.2.2.1, by rw [← HD.out, q.cell hboW]; exact E6.out.cells.2.1⟩, by rw [q.cell hgW]; exact (box7 HXC.out).1.2.1, by rw [q.cell hgW]; exact (box7 HXC.out).1.2.2.2.2.1⟩)
          obtain ⟨x0, x1⟩ := plc_bd (b := gi o 2) (a := gi o 3) (r := M6.rk) ⟨q0, q1⟩ hrk6
          have HPL := Lib.hid (fun W => iplace_any (gi o 2) (gi o 3) M6.rk W ⟨q0, q1⟩ hrk6)
          generalize hX : plc (gi o 2) (gi o 3) M6.rk = X at *
          have HX := Lib.hid hX
          rw [hd] at y1
          have hw2 : IntKind.i64.wrap 2 = 2 := by decide
          have hw1 : IntKind.i64.wrap 1 = 1 := by decide
          have hw0 : IntKind.i64.wrap 0 = 0 := by decide
          have hwx : IntKind.i64.wrap (X + 1) = X + 1 := IntWalk.i64_in _ (by omega)
          have hwy : IntKind.i64.wrap X = X := IntWalk.i64_in _ (by omega)
          clear hX hd
          go_wp2_with fail
          refine wp_region_z (fun w' => (w'.cell? ⟨w.heap.size, 6, none⟩ = some (.int .i64 ((Kc : Int) + 1)) ∧ w'.cell? ⟨w.heap.size, 2, none⟩ = some (.int .i64 (gi o 2)) ∧ w'.cell? ⟨w.heap.size, 3, none⟩ = some (.int .i64 (gi o 3)) ∧ w'.cell? ⟨w.heap.size, 1, none⟩ = some (.int .i64 (-1))) ∧ w'.cell? ⟨g, 1, none⟩ = some (.int .i64 M6.rk) ∧ w'.cell? ⟨g, 4, none⟩ = some (.slice (some ⟨cp, 0, none⟩) M6.cr.length ccap)) 21 (by kernel_rfl) (HK28.out _ (Below.refl _ _).drew) (fun hH0 => ?_)
          refine wpZ_take 0 23 (u := ?_) rfl (by kernel_rfl) (fun _ _ _ h => h) ⟨by rfl, ?_⟩ hH0 ?_
          rotate_left
          · intro w hSw; (try dsimp only at hSw); go_simp; (first | done | with_reducible rfl)
          try simp only [Act.put, sb1, sb2, sb3]
          refine wpZ_take 1 23 (u := ?_) rfl (by kernel_rfl) (fun _ _ _ h => h) ⟨by rfl, ?_⟩ hH0 ?_
          rotate_left
          · intro w hSw; (try dsimp only at hSw); go_simp; (first | done | with_reducible rfl)
          try simp only [Act.put, sb1, sb2, sb3]
          refine wpZ_take 2 23 (u := ?_) rfl (by kernel_rfl) (fun _ _ _ h => h) ⟨by rfl, ?_⟩ hH0 ?_
          rotate_left
          · intro w hSw; (try dsimp only at hSw); go_simp; (first | done | with_reducible rfl)
          try simp only [Act.put, sb1, sb2, sb3]
          refine wpZ_take 3 23 (u := ?_) rfl (by kernel_rfl) (fun _ _ _ h => h) ⟨by rfl, ?_⟩ hH0 ?_
          rotate_left
          · intro w hSw; (try dsimp only at hSw); go_simp; (first | done | with_reducible rfl)
          try simp only [Act.put, sb1, sb2, sb3]
          refine wpZ_take 4 23 (u := ?_) rfl (by kernel_rfl) (fun _ _ _ h => h) ⟨by rfl, ?_⟩ hH0 ?_
          rotate_left
          · intro w hSw; (try dsimp only at hSw); go_simp; (first | done | with_reducible rfl)
          try simp only [Act.put, sb1, sb2, sb3]
          refine wpZ_take 5 23 (u := ?_) rfl (by kernel_rfl) (fun _ _ _ h => h) ⟨by rfl, ?_⟩ hH0 ?_
          rotate_left
          · intro w hSw; (try dsimp only at hSw); go_simp; (first | done | with_reducible rfl)
          try simp only [Act.put, sb1, sb2, sb3]
          refine wpZ_take 6 23 (u := ?_) rfl (by kernel_rfl) (fun _ _ _ h => h) ⟨by rfl, ?_⟩ hH0 ?_
          rotate_left
          · intro w hSw; (try dsimp only at hSw); go_simp; (first | done | with_reducible rfl)
          try simp only [Act.put, sb1, sb2, sb3]
          refine wpZ_take 7 23 (u := ?_) rfl (by kernel_rfl) (fun _ _ _ h => h) ⟨by rfl, ?_⟩ hH0 ?_
          rotate_left
          · intro w hSw; (try dsimp only at hSw); go_simp; (first | done | with_reducible rfl)
          try simp only [Act.put, sb1, sb2, sb3]
          refine wpZ_take 8 23 (u := ?_) rfl (by kernel_rfl) (fun _ _ _ h => h) ⟨by rfl, ?_⟩ hH0 ?_
          rotate_left
          · intro w hSw; (try dsimp only at hSw); go_simp; (first | done | with_reducible rfl)
          try simp only [Act.put, sb1, sb2, sb3]
          refine wpZ_take 9 23 (u := ?_) rfl (by kernel_rfl) (fun _ _ _ h => h) ⟨by rfl, ?_⟩ hH0 ?_
          rotate_left
          · intro w hSw; (try dsimp only at hSw); go_simp; (first | done | with_reducible rfl)
          try simp only [Act.put, sb1, sb2, sb3]
          refine wpZ_take 10 23 (u := ?_) rfl (by kernel_rfl) (fun _ _ _ h => h) ⟨by rfl, ?_⟩ hH0 ?_
          rotate_left
          · intro w hSw; (try dsimp only at hSw); go_simp; (first | done | with_reducible rfl)
          try simp only [Act.put, sb1, sb2, sb3]
          refine wpZ_take 11 23 (u := ?_) rfl (by kernel_rfl) (fun _ _ _ h => h) ⟨by rfl, ?_⟩ hH0 ?_
          rotate_left
          · intro w hSw; (try dsimp only at hSw); go_simp; (first | done | with_reducible rfl)
          try simp only [Act.put, sb1, sb2, sb3]
          refine wpZ_take 12 23 (u := ?_) rfl (by kernel_rfl) (fun _ _ _ h => h) ⟨by rfl, ?_⟩ hH0 ?_
          rotate_left
          · intro w hSw; (try dsimp only at hSw); go_simp; (first | done | with_reducible rfl)
          try simp only [Act.put, sb1, sb2, sb3]
          refine wpZ_take 14 23 (u := ?_) rfl (by kernel_rfl) (fun _ _ _ h => h) ⟨by rfl, ?_⟩ hH0 ?_
          rotate_left
          · intro w hSw; (try dsimp only at hSw); go_simp; (first | done | with_reducible rfl)
          try simp only [Act.put, sb1, sb2, sb3]
          refine wpZ_take 15 23 (u := ?_) rfl (by kernel_rfl) (fun _ _ _ h => h) ⟨by rfl, ?_⟩ hH0 ?_
          rotate_left
          · intro w hSw; (try dsimp only at hSw); go_simp; (first | done | with_reducible rfl)
          try simp only [Act.put, sb1, sb2, sb3]
          refine wpZ_take 16 23 (u := ?_) rfl (by kernel_rfl) (fun _ _ _ h => h) ⟨by rfl, ?_⟩ hH0 ?_
          rotate_left
          · intro w hSw; (try dsimp only at hSw); go_simp; (first | done | with_reducible rfl)
          try simp only [Act.put, sb1, sb2, sb3]
          refine wpZ_take 17 23 (u := ?_) rfl (by kernel_rfl) (fun _ _ _ h => h) ⟨by rfl, ?_⟩ hH0 ?_
          rotate_left
          · intro w hSw; (try dsimp only at hSw); go_simp; (first | done | with_reducible rfl)
          try simp only [Act.put, sb1, sb2, sb3]
          refine wpZ_only 13 rfl (by kernel_rfl) (by rfl) (fun K hK => ?_)
          go_simp
          go_at_call 96
          refine (HPL.out _).mono ?_
          rintro e w8 ⟨rfl, hq8⟩
          have b8 : Below w6.heap.size w6 w8 := Below.trans (Below.refl _ _).drew (hq8.mono (Nat.le_refl _))
          go_wp2_with fail
          refine hK.out _ _ ?_ (fun hH1 => ?_)
          · exact HK28.out _ b8
          clear hK K hH0
          try simp only [Act.put, sb1, sb2, sb3]
          refine wpZ_take 18 23 (u := ?_) rfl (by kernel_rfl) (fun _ _ _ h => h) ⟨by rfl, ?_⟩ hH1 ?_
          rotate_left
          · intro w hSw; (try dsimp only at hSw); go_simp; (first | done | with_reducible rfl)
          try simp only [Act.put, sb1, sb2, sb3]
          refine wpZ_take 19 23 (u := ?_) rfl (by kernel_rfl) (fun _ _ _ h => h) ⟨by rfl, ?_⟩ hH1 ?_
          rotate_left
          · intro w hSw; (try dsimp only at hSw); go_simp; (first | done | with_reducible rfl)
          try simp only [Act.put, sb1, sb2, sb3]
          refine wpZ_take 20 23 (u := ?_) rfl (by kernel_rfl) (fun _ _ _ h => h) ⟨by rfl, ?_⟩ hH1 ?_
          rotate_left
          · intro w hSw; (try dsimp only at hSw); go_simp; (first | done | with_reducible rfl)
          try simp only [Act.put, sb1, sb2, sb3]
          refine wpZ_last rfl (by kernel_rfl) (by kernel_rfl) (by rfl) (fun K hK => ?_)
          have k8 : w8.cell? ⟨cp, Kc * 2 + 1, none⟩ = _ := (b8.cell (p := ⟨cp, Kc * 2 + 1, none⟩) hcpW).trans HK1.out
          have f8 : w8.frozen? ⟨cp, Kc * 2 + 1, none⟩ = false := (b8.frozen (p := ⟨cp, Kc * 2 + 1, none⟩) hcpW).trans HF1.out
          go_simp
          refine hK.out _ _ ?_
          clear hK K hH1
          have E8 := E6.out.below b8
          obtain ⟨h9, ch9, -⟩ := E8.bx.carX (keep_fwd b8 HXC.out) Kc (by omega) (X)
          have E9 := Lib.hid (E8.step (h9.mono fun j q => .inl q) ch9)
          have HEQ : Hid (M6.setAt o = { M6 with cr := M6.cr.set Kc ((gc M6.cr Kc).1, X) }) := Lib.hid (setAt_eqK HKK.out _ (by rw [HX.out, HD.out]; simp))
          clear E8 h9 ch9 k8 f8 b8 hq8 HK28
          generalize w8.setCell ⟨cp, Kc * 2 + 1, none⟩ (.int .i64 (X)) = w9 at *
          go_wp2
          go_ret
          exact ⟨rfl, by rw [HEXE.out, HEQ.out]; exact E9.out.fin, E9.out.ch⟩
      · have HKD := Lib.hid hk
        obtain ⟨Kc, hK⟩ : ∃ Kc : Nat, gi o 6 = (Kc : Int) + 1 := ⟨(gi o 6 - 1).toNat, by omega⟩
        have hKl : Kc < m.cr.length := by have := HOK.out.cr; omega
        have hK3 : (Kc : Int) ≤ 3 := by omega
        have hK0 : (0 : Int) ≤ (Kc : Int) := by omega
        have hK4 : (Kc : Int) < 4 := by omega
        have hKw : IntKind.i64.wrap (Kc : Int) = (Kc : Int) := IntWalk.i64_in _ (by omega)
        have HKK := Lib.hid hK
        clear hK c1 c2
        clear hk
        obtain ⟨M6, hM6⟩ : ∃ x, x = m := ⟨_, rfl⟩
        have hcr6 : M6.cr.length = 4 := by rw [hM6]; exact HOK.out.cr
        have hrk6 : -3 ≤ M6.rk ∧ M6.rk ≤ 3 := by rw [hM6]; exact hrk
        have HM6 := Lib.hid hM6
        have E6 : Hid (Exs w S g o w2 M6) := Lib.hid (by rw [hM6]; exact E2.out)
        clear hM6
        have HEXE : Hid (exeM m o = M6.setAt o) := Lib.hid (by unfold exeM; rw [if_neg (by rw [HKD.out]; decide), if_neg (by rw [HKD.out]; decide), if_pos HKD.out, HM6.out])
        obtain ⟨y0, y1, y2, y3, y4, y5, y6, y7⟩ := E6.out.cells
        rw [HKD.out] at y0
        go_wp2_with fail
        refine (mk_val (k := 3) (b := false) rfl _).mono ?_
        rintro e wz ⟨rfl, rfl⟩
        obtain ⟨cf, cb, cl, cdd, cp, cn, ccap, hxc, hcn, -, spc, -, k0, k1, f0, f1⟩ := E6.out.bx.cars Kc (by omega)
        subst hcn
        have hgW := heap_lt hxc
        have hcpW := E6.out.tlt cp spc
        have hboW : w.heap.size < w2.heap.size := by have := E6.out.sz; omega
        have HXC := Lib.hid hxc
        have HK1 := Lib.hid k1
        have HF1 := Lib.hid f1
        have hcnot : ¬ cp = w.heap.size := fun e => E6.out.not (e ▸ spc)
        clear k0 k1 f0 f1 hxc spc
        rcases hd with hd | hd
        · have HD := Lib.hid hd
          have HK28 := Lib.hid (fun (w' : World) (q : Below w2.heap.size w2 w') => show (w'.cell? ⟨w.heap.size, 6, none⟩ = some (.int .i64 ((Kc : Int) + 1)) ∧ w'.cell? ⟨w.heap.size, 2, none⟩ = some (.int .i64 (gi o 2)) ∧ w'.cell? ⟨w.heap.size, 3, none⟩ = some (.int .i64 (gi o 3)) ∧ w'.cell? ⟨w.heap.size, 1, none⟩ = some (.int .i64 (1))) ∧ w'.cell? ⟨g, 1, none⟩ = some (.int .i64 M6.rk) ∧ w'.cell? ⟨g, 4, none⟩ = some (.slice (some ⟨cp, 0, none⟩) M6.cr.length ccap) from
            ⟨⟨by rw [← HKK.out, q.cell hboW]; exact E6.out.cells.2.2.2.2.2.2.1, by rw [q.cell hboW]; exact E6.out.cells.2.2.1, by rw [q.cell hboW]; exact E6.out.cells.2.2.2.1, by rw [← HD.out, q.cell hboW]; exact E6.out.cells.2.1⟩, by rw [q.cell hgW]; exact (box7 HXC.out).1.2.1, by rw [q.cell hgW]; exact (box7 HXC.out).1.2.2.2.2.1⟩)
          obtain ⟨x0, x1⟩ := plc_bd (b := gi o 2) (a := gi o 3) (r := M6.rk) ⟨q0, q1⟩ hrk6
          have HPL := Lib.hid (fun W => iplace_any (gi o 2) (gi o 3) M6.rk W ⟨q0, q1⟩ hrk6)
          generalize hX : plc (gi o 2) (gi o 3) M6.rk = X at *
          have HX := Lib.hid hX
          rw [hd] at y1
          have hw2 : IntKind.i64.wrap 2 = 2 := by decide
          have hw1 : IntKind.i64.wrap 1 = 1 := by decide
          have hw0 : IntKind.i64.wrap 0 = 0 := by decide
          have hwx : IntKind.i64.wrap (X + 1) = X + 1 := IntWalk.i64_in _ (by omega)
          have hwy : IntKind.i64.wrap X = X := IntWalk.i64_in _ (by omega)
          clear hX hd
          go_wp2_with fail
          refine wp_region_z (fun w' => (w'.cell? ⟨w.heap.size, 6, none⟩ = some (.int .i64 ((Kc : Int) + 1)) ∧ w'.cell? ⟨w.heap.size, 2, none⟩ = some (.int .i64 (gi o 2)) ∧ w'.cell? ⟨w.heap.size, 3, none⟩ = some (.int .i64 (gi o 3)) ∧ w'.cell? ⟨w.heap.size, 1, none⟩ = some (.int .i64 (1))) ∧ w'.cell? ⟨g, 1, none⟩ = some (.int .i64 M6.rk) ∧ w'.cell? ⟨g, 4, none⟩ = some (.slice (some ⟨cp, 0, none⟩) M6.cr.length ccap)) 21 (by kernel_rfl) (HK28.out _ (Below.refl _ _).drew) (fun hH0 => ?_)
          refine wpZ_take 0 23 (u := ?_) rfl (by kernel_rfl) (fun _ _ _ h => h) ⟨by rfl, ?_⟩ hH0 ?_
          rotate_left
          · intro w hSw; (try dsimp only at hSw); go_simp; (first | done | with_reducible rfl)
          try simp only [Act.put, sb1, sb2, sb3]
          refine wpZ_take 1 23 (u := ?_) rfl (by kernel_rfl) (fun _ _ _ h => h) ⟨by rfl, ?_⟩ hH0 ?_
          rotate_left
          · intro w hSw; (try dsimp only at hSw); go_simp; (first | done | with_reducible rfl)
          try simp only [Act.put, sb1, sb2, sb3]
          refine wpZ_take 2 23 (u := ?_) rfl (by kernel_rfl) (fun _ _ _ h => h) ⟨by rfl, ?_⟩ hH0 ?_
          rotate_left
          · intro w hSw; (try dsimp only at hSw); go_simp; (first | done | with_reducible rfl)
          try simp only [Act.put, sb1, sb2, sb3]
          refine wpZ_take 3 23 (u := ?_) rfl (by kernel_rfl) (fun _ _ _ h => h) ⟨by rfl, ?_⟩ hH0 ?_
          rotate_left
          · intro w hSw; (try dsimp only at hSw); go_simp; (first | done | with_reducible rfl)
          try simp only [Act.put, sb1, sb2, sb3]
          refine wpZ_take 4 23 (u := ?_) rfl (by kernel_rfl) (fun _ _ _ h => h) ⟨by rfl, ?_⟩ hH0 ?_
          rotate_left
          · intro w hSw; (try dsimp only at hSw); go_simp; (first | done | with_reducible rfl)
          try simp only [Act.put, sb1, sb2, sb3]
          refine wpZ_take 5 23 (u := ?_) rfl (by kernel_rfl) (fun _ _ _ h => h) ⟨by rfl, ?_⟩ hH0 ?_
          rotate_left
          · intro w hSw; (try dsimp only at hSw); go_simp; (first | done | with_reducible rfl)
          try simp only [Act.put, sb1, sb2, sb3]
          refine wpZ_take 6 23 (u := ?_) rfl (by kernel_rfl) (fun _ _ _ h => h) ⟨by rfl, ?_⟩ hH0 ?_
          rotate_left
          · intro w hSw; (try dsimp only at hSw); go_simp; (first | done | with_reducible rfl)
          try simp only [Act.put, sb1, sb2, sb3]
          refine wpZ_take 7 23 (u := ?_) rfl (by kernel_rfl) (fun _ _ _ h => h) ⟨by rfl, ?_⟩ hH0 ?_
          rotate_left
          · intro w hSw; (try dsimp only at hSw); go_simp; (first | done | with_reducible rfl)
          try simp only [Act.put, sb1, sb2, sb3]
          refine wpZ_take 8 23 (u := ?_) rfl (by kernel_rfl) (fun _ _ _ h => h) ⟨by rfl, ?_⟩ hH0 ?_
          rotate_left
          · intro w hSw; (try dsimp only at hSw); go_simp; (first | done | with_reducible rfl)
          try simp only [Act.put, sb1, sb2, sb3]
          refine wpZ_take 9 23 (u := ?_) rfl (by kernel_rfl) (fun _ _ _ h => h) ⟨by rfl, ?_⟩ hH0 ?_
          rotate_left
          · intro w hSw; (try dsimp only at hSw); go_simp; (first | done | with_reducible rfl)
          try simp only [Act.put, sb1, sb2, sb3]
          refine wpZ_take 10 23 (u := ?_) rfl (by kernel_rfl) (fun _ _ _ h => h) ⟨by rfl, ?_⟩ hH0 ?_
          rotate_left
          · intro w hSw; (try dsimp only at hSw); go_simp; (first | done | with_reducible rfl)
          try simp only [Act.put, sb1, sb2, sb3]
          refine wpZ_take 11 23 (u := ?_) rfl (by kernel_rfl) (fun _ _ _ h => h) ⟨by rfl, ?_⟩ hH0 ?_
          rotate_left
          · intro w hSw; (try dsimp only at hSw); go_simp; (first | done | with_reducible rfl)
          try simp only [Act.put, sb1, sb2, sb3]
          refine wpZ_take 12 23 (u := ?_) rfl (by kernel_rfl) (fun _ _ _ h => h) ⟨by rfl, ?_⟩ hH0 ?_
          rotate_left
          · intro w hSw; (try dsimp only at hSw); go_simp; (first | done | with_reducible rfl)
          try simp only [Act.put, sb1, sb2, sb3]
          refine wpZ_take 14 23 (u := ?_) rfl (by kernel_rfl) (fun _ _ _ h => h) ⟨by rfl, ?_⟩ hH0 ?_
          rotate_left
          · intro w hSw; (try dsimp only at hSw); go_simp; (first | done | with_reducible rfl)
          try simp only [Act.put, sb1, sb2, sb3]
          refine wpZ_take 15 23 (u := ?_) rfl (by kernel_rfl) (fun _ _ _ h => h) ⟨by rfl, ?_⟩ hH0 ?_
          rotate_left
          · intro w hSw; (try dsimp only at hSw); go_simp; (first | done | with_reducible rfl)
          try simp only [Act.put, sb1, sb2, sb3]
          refine wpZ_take 16 23 (u := ?_) rfl (by kernel_rfl) (fun _ _ _ h => h) ⟨by rfl, ?_⟩ hH0 ?_
          rotate_left
          · intro w hSw; (try dsimp only at hSw); go_simp; (first | done | with_reducible rfl)
          try simp only [Act.put, sb1, sb2, sb3]
          refine wpZ_take 17 23 (u := ?_) rfl (by kernel_rfl) (fun _ _ _ h => h) ⟨by rfl, ?_⟩ hH0 ?_
          rotate_left
          · intro w hSw; (try dsimp only at hSw); go_simp; (first | done | with_reducible rfl)
          try simp only [Act.put, sb1, sb2, sb3]
          refine wpZ_only 13 rfl (by kernel_rfl) (by rfl) (fun K hK => ?_)
          go_simp
          go_at_call 96
          refine (HPL.out _).mono ?_
          rintro e w8 ⟨rfl, hq8⟩
          have b8 : Below w2.heap.size w2 w8 := Below.trans (Below.refl _ _).drew (hq8.mono (Nat.le_refl _))
          go_wp2_with fail
          refine hK.out _ _ ?_ (fun hH1 => ?_)
          · exact HK28.out _ b8
          clear hK K hH0
          try simp only [Act.put, sb1, sb2, sb3]
          refine wpZ_take 18 23 (u := ?_) rfl (by kernel_rfl) (fun _ _ _ h => h) ⟨by rfl, ?_⟩ hH1 ?_
          rotate_left
          · intro w hSw; (try dsimp only at hSw); go_simp; (first | done | with_reducible rfl)
          try simp only [Act.put, sb1, sb2, sb3]
          refine wpZ_take 19 23 (u := ?_) rfl (by kernel_rfl) (fun _ _ _ h => h) ⟨by rfl, ?_⟩ hH1 ?_
          rotate_left
          · intro w hSw; (try dsimp only at hSw); go_simp; (first | done | with_reducible rfl)
          try simp only [Act.put, sb1, sb2, sb3]
          refine wpZ_take 20 23 (u := ?_) rfl (by kernel_rfl) (fun _ _ _ h => h) ⟨by rfl, ?_⟩ hH1 ?_
          rotate_left
          · intro w hSw; (try dsimp only at hSw); go_simp; (first | done | with_reducible rfl)
          try simp only [Act.put, sb1, sb2, sb3]
          refine wpZ_last rfl (by kernel_rfl) (by kernel_rfl) (by rfl) (fun K hK => ?_)
          have k8 : w8.cell? ⟨cp, Kc * 2 + 1, none⟩ = _ := (b8.cell (p := ⟨cp, Kc * 2 + 1, none⟩) hcpW).trans HK1.out
          have f8 : w8.frozen? ⟨cp, Kc * 2 + 1, none⟩ = false := (b8.frozen (p := ⟨cp, Kc * 2 + 1, none⟩) hcpW).trans HF1.out
          go_simp
          refine hK.out _ _ ?_
          clear hK K hH1
          have E8 := E6.out.below b8
          obtain ⟨h9, ch9, -⟩ := E8.bx.carX (keep_fwd b8 HXC.out) Kc (by omega) (X + 1)
          have E9 := Lib.hid (E8.step (h9.mono fun j q => .inl q) ch9)
          have HEQ : Hid (M6.setAt o = { M6 with cr := M6.cr.set Kc ((gc M6.cr Kc).1, X + 1) }) := Lib.hid (setAt_eqK HKK.out _ (by rw [HX.out, HD.out]; rfl))
          clear E8 h9 ch9 k8 f8 b8 hq8 HK28
          generalize w8.setCell ⟨cp, Kc * 2 + 1, none⟩ (.int .i64 (X + 1)) = w9 at *
          go_wp2
          go_ret
          exact ⟨rfl, by rw [HEXE.out, HEQ.out]; exact E9.out.fin, E9.out.ch⟩
        · have HD := Lib.hid hd
          have HK28 := Lib.hid (fun (w' : World) (q : Below w2.heap.size w2 w') => show (w'.cell? ⟨w.heap.size, 6, none⟩ = some (.int .i64 ((Kc : Int) + 1)) ∧ w'.cell? ⟨w.heap.size, 2, none⟩ = some (.int .i64 (gi o 2)) ∧ w'.cell? ⟨w.heap.size, 3, none⟩ = some (.int .i64 (gi o 3)) ∧ w'.cell? ⟨w.heap.size, 1, none⟩ = some (.int .i64 (-1))) ∧ w'.cell? ⟨g, 1, none⟩ = some (.int .i64 M6.rk) ∧ w'.cell? ⟨g, 4, none⟩ = some (.slice (some ⟨cp, 0, none⟩) M6.cr.length ccap) from
            ⟨⟨by rw [← HKK.out, q.cell hboW]; exact E6.out.cells.2.2.2.2.2.2.1, by rw [q.cell hboW]; exact E6.out.cells.2.2.1, by rw [q.cell hboW]; exact E6.out.cells.2.2.2.1, by rw [← HD.out, q.cell hboW]; exact E6.out.cells.2.1⟩, by rw [q.cell hgW]; exact (box7 HXC.out).1.2.1, by rw [q.cell hgW]; exact (box7 HXC.out).1.2.2.2.2.1⟩)
          obtain ⟨x0, x1⟩ := plc_bd (b := gi o 2) (a := gi o 3) (r := M6.rk) ⟨q0, q1⟩ hrk6
          have HPL := Lib.hid (fun W => iplace_any (gi o 2) (gi o 3) M6.rk W ⟨q0, q1⟩ hrk6)
          generalize hX : plc (gi o 2) (gi o 3) M6.rk = X at *
          have HX := Lib.hid hX
          rw [hd] at y1
          have hw2 : IntKind.i64.wrap 2 = 2 := by decide
          have hw1 : IntKind.i64.wrap 1 = 1 := by decide
          have hw0 : IntKind.i64.wrap 0 = 0 := by decide
          have hwx : IntKind.i64.wrap (X + 1) = X + 1 := IntWalk.i64_in _ (by omega)
          have hwy : IntKind.i64.wrap X = X := IntWalk.i64_in _ (by omega)
          clear hX hd
          go_wp2_with fail
          refine wp_region_z (fun w' => (w'.cell? ⟨w.heap.size, 6, none⟩ = some (.int .i64 ((Kc : Int) + 1)) ∧ w'.cell? ⟨w.heap.size, 2, none⟩ = some (.int .i64 (gi o 2)) ∧ w'.cell? ⟨w.heap.size, 3, none⟩ = some (.int .i64 (gi o 3)) ∧ w'.cell? ⟨w.heap.size, 1, none⟩ = some (.int .i64 (-1))) ∧ w'.cell? ⟨g, 1, none⟩ = some (.int .i64 M6.rk) ∧ w'.cell? ⟨g, 4, none⟩ = some (.slice (some ⟨cp, 0, none⟩) M6.cr.length ccap)) 21 (by kernel_rfl) (HK28.out _ (Below.refl _ _).drew) (fun hH0 => ?_)
          refine wpZ_take 0 23 (u := ?_) rfl (by kernel_rfl) (fun _ _ _ h => h) ⟨by rfl, ?_⟩ hH0 ?_
          rotate_left
          · intro w hSw; (try dsimp only at hSw); go_simp; (first | done | with_reducible rfl)
          try simp only [Act.put, sb1, sb2, sb3]
          refine wpZ_take 1 23 (u := ?_) rfl (by kernel_rfl) (fun _ _ _ h => h) ⟨by rfl, ?_⟩ hH0 ?_
          rotate_left
          · intro w hSw; (try dsimp only at hSw); go_simp; (first | done | with_reducible rfl)
          try simp only [Act.put, sb1, sb2, sb3]
          refine wpZ_take 2 23 (u := ?_) rfl (by kernel_rfl) (fun _ _ _ h => h) ⟨by rfl, ?_⟩ hH0 ?_
          rotate_left
          · intro w hSw; (try dsimp only at hSw); go_simp; (first | done | with_reducible rfl)
          try simp only [Act.put, sb1, sb2, sb3]
          refine wpZ_take 3 23 (u := ?_) rfl (by kernel_rfl) (fun _ _ _ h => h) ⟨by rfl, ?_⟩ hH0 ?_
          rotate_left
          · intro w hSw; (try dsimp only at hSw); go_simp; (first | done | with_reducible rfl)
          try simp only [Act.put, sb1, sb2, sb3]
          refine wpZ_take 4 23 (u := ?_) rfl (by kernel_rfl) (fun _ _ _ h => h) ⟨by rfl, ?_⟩ hH0 ?_
          rotate_left
          · intro w hSw; (try dsimp only at hSw); go_simp; (first | done | with_reducible rfl)
          try simp only [Act.put, sb1, sb2, sb3]
          refine wpZ_take 5 23 (u := ?_) rfl (by kernel_rfl) (fun _ _ _ h => h) ⟨by rfl, ?_⟩ hH0 ?_
          rotate_left
          · intro w hSw; (try dsimp only at hSw); go_simp; (first | done | with_reducible rfl)
          try simp only [Act.put, sb1, sb2, sb3]
          refine wpZ_take 6 23 (u := ?_) rfl (by kernel_rfl) (fun _ _ _ h => h) ⟨by rfl, ?_⟩ hH0 ?_
          rotate_left
          · intro w hSw; (try dsimp only at hSw); go_simp; (first | done | with_reducible rfl)
          try simp only [Act.put, sb1, sb2, sb3]
          refine wpZ_take 7 23 (u := ?_) rfl (by kernel_rfl) (fun _ _ _ h => h) ⟨by rfl, ?_⟩ hH0 ?_
          rotate_left
          · intro w hSw; (try dsimp only at hSw); go_simp; (first | done | with_reducible rfl)
          try simp only [Act.put, sb1, sb2, sb3]
          refine wpZ_take 8 23 (u := ?_) rfl (by kernel_rfl) (fun _ _ _ h => h) ⟨by rfl, ?_⟩ hH0 ?_
          rotate_left
          · intro w hSw; (try dsimp only at hSw); go_simp; (first | done | with_reducible rfl)
          try simp only [Act.put, sb1, sb2, sb3]
          refine wpZ_take 9 23 (u := ?_) rfl (by kernel_rfl) (fun _ _ _ h => h) ⟨by rfl, ?_⟩ hH0 ?_
          rotate_left
          · intro w hSw; (try dsimp only at hSw); go_simp; (first | done | with_reducible rfl)
          try simp only [Act.put, sb1, sb2, sb3]
          refine wpZ_take 10 23 (u := ?_) rfl (by kernel_rfl) (fun _ _ _ h => h) ⟨by rfl, ?_⟩ hH0 ?_
          rotate_left
          · intro w hSw; (try dsimp only at hSw); go_simp; (first | done | with_reducible rfl)
          try simp only [Act.put, sb1, sb2, sb3]
          refine wpZ_take 11 23 (u := ?_) rfl (by kernel_rfl) (fun _ _ _ h => h) ⟨by rfl, ?_⟩ hH0 ?_
          rotate_left
          · intro w hSw; (try dsimp only at hSw); go_simp; (first | done | with_reducible rfl)
          try simp only [Act.put, sb1, sb2, sb3]
          refine wpZ_take 12 23 (u := ?_) rfl (by kernel_rfl) (fun _ _ _ h => h) ⟨by rfl, ?_⟩ hH0 ?_
          rotate_left
          · intro w hSw; (try dsimp only at hSw); go_simp; (first | done | with_reducible rfl)
          try simp only [Act.put, sb1, sb2, sb3]
          refine wpZ_take 14 23 (u := ?_) rfl (by kernel_rfl) (fun _ _ _ h => h) ⟨by rfl, ?_⟩ hH0 ?_
          rotate_left
          · intro w hSw; (try dsimp only at hSw); go_simp; (first | done | with_reducible rfl)
          try simp only [Act.put, sb1, sb2, sb3]
          refine wpZ_take 15 23 (u := ?_) rfl (by kernel_rfl) (fun _ _ _ h => h) ⟨by rfl, ?_⟩ hH0 ?_
          rotate_left
          · intro w hSw; (try dsimp only at hSw); go_simp; (first | done | with_reducible rfl)
          try simp only [Act.put, sb1, sb2, sb3]
          refine wpZ_take 16 23 (u := ?_) rfl (by kernel_rfl) (fun _ _ _ h => h) ⟨by rfl, ?_⟩ hH0 ?_
          rotate_left
          · intro w hSw; (try dsimp only at hSw); go_simp; (first | done | with_reducible rfl)
          try simp only [Act.put, sb1, sb2, sb3]
          refine wpZ_take 17 23 (u := ?_) rfl (by kernel_rfl) (fun _ _ _ h => h) ⟨by rfl, ?_⟩ hH0 ?_
          rotate_left
          · intro w hSw; (try dsimp only at hSw); go_simp; (first | done | with_reducible rfl)
          try simp only [Act.put, sb1, sb2, sb3]
          refine wpZ_only 13 rfl (by kernel_rfl) (by rfl) (fun K hK => ?_)
          go_simp
          go_at_call 96
          refine (HPL.out _).mono ?_
          rintro e w8 ⟨rfl, hq8⟩
          have b8 : Below w2.heap.size w2 w8 := Below.trans (Below.refl _ _).drew (hq8.mono (Nat.le_refl _))
          go_wp2_with fail
          refine hK.out _ _ ?_ (fun hH1 => ?_)
          · exact HK28.out _ b8
          clear hK K hH0
          try simp only [Act.put, sb1, sb2, sb3]
          refine wpZ_take 18 23 (u := ?_) rfl (by kernel_rfl) (fun _ _ _ h => h) ⟨by rfl, ?_⟩ hH1 ?_
          rotate_left
          · intro w hSw; (try dsimp only at hSw); go_simp; (first | done | with_reducible rfl)
          try simp only [Act.put, sb1, sb2, sb3]
          refine wpZ_take 19 23 (u := ?_) rfl (by kernel_rfl) (fun _ _ _ h => h) ⟨by rfl, ?_⟩ hH1 ?_
          rotate_left
          · intro w hSw; (try dsimp only at hSw); go_simp; (first | done | with_reducible rfl)
          try simp only [Act.put, sb1, sb2, sb3]
          refine wpZ_take 20 23 (u := ?_) rfl (by kernel_rfl) (fun _ _ _ h => h) ⟨by rfl, ?_⟩ hH1 ?_
          rotate_left
          · intro w hSw; (try dsimp only at hSw); go_simp; (first | done | with_reducible rfl)
          try simp only [Act.put, sb1, sb2, sb3]
          refine wpZ_last rfl (by kernel_rfl) (by kernel_rfl) (by rfl) (fun K hK => ?_)
          have k8 : w8.cell? ⟨cp, Kc * 2 + 1, none⟩ = _ := (b8.cell (p := ⟨cp, Kc * 2 + 1, none⟩) hcpW).trans HK1.out
          have f8 : w8.frozen? ⟨cp, Kc * 2 + 1, none⟩ = false := (b8.frozen (p := ⟨cp, Kc * 2 + 1, none⟩) hcpW).trans HF1.out
          go_simp
          refine hK.out _ _ ?_
          clear hK K hH1
          have E8 := E6.out.below b8
          obtain ⟨h9, ch9, -⟩ := E8.bx.carX (keep_fwd b8 HXC.out) Kc (by omega) (X)
          have E9 := Lib.hid (E8.step (h9.mono fun j q => .inl q) ch9)
          have HEQ : Hid (M6.setAt o = { M6 with cr := M6.cr.set Kc ((gc M6.cr Kc).1, X) }) := Lib.hid (setAt_eqK HKK.out _ (by rw [HX.out, HD.out]; simp))
          clear E8 h9 ch9 k8 f8 b8 hq8 HK28
          generalize w8.setCell ⟨cp, Kc * 2 + 1, none⟩ (.int .i64 (X)) = w9 at *
          go_wp2
          go_ret
          exact ⟨rfl, by rw [HEXE.out, HEQ.out]; exact E9.out.fin, E9.out.ch⟩
    · have HKD := Lib.hid hk
      have hn1 : m.ndl (gi o 2) (gi o 3) := ⟨hb, q0, hf1⟩
      have hn2 : m.ndl (gi o 4) (gi o 5) := ⟨hb2, q2, hf2⟩
      clear hk
      have hl := transfer_any (w := w2) E2.out.bx E2.out.tlt HOK.out hn1 hn2 hne
      have HLT := Lib.hid hl
      clear hl hn1 hn2
      obtain ⟨y0, y1, y2, y3, y4, y5, y6, y7⟩ := E2.out.cells
      rw [HKD.out] at y0
      go_wp2_with fail
      refine HLT.out.mono ?_
      rintro e w6 ⟨v, Sp, S', rfl, hv, hx6, hd6, hs6, hp6, hc6⟩
      have E6 : Hid (Exs w S g o w6 (m.moved o)) := Lib.hid (E2.out.step (hx6.mono hs6) hc6)
      clear y0 y1 y2 y3 y4 y5 y6 y7
      clear hv hx6 hd6 hs6 hp6 hc6 HLT
      have HEXE : Hid (exeM m o = _) := Lib.hid (by unfold exeM; rw [if_neg (by rw [HKD.out]; decide), if_neg (by rw [HKD.out]; decide), if_neg (by rw [HKD.out]; decide), if_neg (by rw [HKD.out]; decide), if_pos HKD.out])
      obtain ⟨y0, y1, y2, y3, y4, y5, y6, y7⟩ := E6.out.cells
      rw [HKD.out] at y0
      go_wp2_with fail
      refine (mk_val (k := 4) (b := false) rfl _).mono ?_
      rintro e wz ⟨rfl, rfl⟩
      go_wp2
      go_ret
      exact ⟨rfl, by rw [HEXE.out]; exact E6.out.fin, E6.out.ch⟩
    · have HKD := Lib.hid hk
      obtain ⟨Kc, hK⟩ : ∃ Kc : Nat, gi o 6 = (Kc : Int) + 1 := ⟨(gi o 6 - 1).toNat, by omega⟩
      have hKl : Kc < m.cr.length := by have := HOK.out.cr; omega
      have hK3 : (Kc : Int) ≤ 3 := by omega
      have hK0 : (0 : Int) ≤ (Kc : Int) := by omega
      have hK4 : (Kc : Int) < 4 := by omega
      have hKw : IntKind.i64.wrap (Kc : Int) = (Kc : Int) := IntWalk.i64_in _ (by omega)
      have HKK := Lib.hid hK
      clear hK c1 c2
      have hn1 : m.ndl (gi o 2) (gi o 3) := ⟨hb, q0, hf1⟩
      have hn2 : m.ndl (gi o 4) (gi o 5) := ⟨hb2, q2, hf2⟩
      have hlp3 := code_lp HCM.out (by omega)
      have hmv := moveC_zero (code_mv HCM.out (by omega))
      have hokM := HOK.out.moved hn1 hn2 hne hmv.2.2
      have hl4 : (m.on (gi o 2) (gi o 3)).length ≤ 4 := on_len HOK.out hn1
      have E2d := Lib.hid (E2.out.below (Below.refl w2.heap.size w2).drew)
      have HLT := Lib.hid (transfer_any (w := w2.drew) E2d.out.bx E2d.out.tlt HOK.out hn1 hn2 hne)
      have HOKM := Lib.hid hokM
      have HK14 := Lib.hid (fun (w' : World) (M : Mac) (q : Exs w S g o w' M) => show w'.cell? ⟨w.heap.size, 0, none⟩ = some (.int .i64 5) ∧ w'.cell? ⟨w.heap.size, 1, none⟩ = some (.int .i64 (gi o 1)) ∧ w'.cell? ⟨w.heap.size, 2, none⟩ = some (.int .i64 (gi o 2)) ∧ w'.cell? ⟨w.heap.size, 3, none⟩ = some (.int .i64 (gi o 3)) ∧ w'.cell? ⟨w.heap.size, 4, none⟩ = some (.int .i64 (gi o 4)) ∧ w'.cell? ⟨w.heap.size, 5, none⟩ = some (.int .i64 (gi o 5)) ∧ w'.cell? ⟨w.heap.size, 6, none⟩ = some (.int .i64 (gi o 6)) ∧ w'.cell? ⟨w.heap.size, 7, none⟩ = some (.int .i64 (gi o 7)) from by
        have := q.cells
        rw [HKD.out] at this
        exact this)
      have hmp := moved_parts m o
      have HMP := Lib.hid hmp
      clear hk hn1 hn2 hokM hmv hmp
      obtain ⟨y0, y1, y2, y3, y4, y5, y6, y7⟩ := E2.out.cells
      rw [HKD.out] at y0
      go_wp2_with fail
      refine wp_region_z (fun w' => w'.cell? ⟨w.heap.size, 0, none⟩ = some (.int .i64 5) ∧ w'.cell? ⟨w.heap.size, 1, none⟩ = some (.int .i64 (gi o 1)) ∧ w'.cell? ⟨w.heap.size, 2, none⟩ = some (.int .i64 (gi o 2)) ∧ w'.cell? ⟨w.heap.size, 3, none⟩ = some (.int .i64 (gi o 3)) ∧ w'.cell? ⟨w.heap.size, 4, none⟩ = some (.int .i64 (gi o 4)) ∧ w'.cell? ⟨w.heap.size, 5, none⟩ = some (.int .i64 (gi o 5)) ∧ w'.cell? ⟨w.heap.size, 6, none⟩ = some (.int .i64 (gi o 6)) ∧ w'.cell? ⟨w.heap.size, 7, none⟩ = some (.int .i64 (gi o 7))) 8 (by kernel_rfl) (HK14.out _ _ E2d.out) (fun hH0 => ?_)
      refine wpZ_take 0 10 (u := ?_) rfl (by kernel_rfl) (fun _ _ _ h => h) ⟨by rfl, ?_⟩ hH0 ?_
      rotate_left
      · intro w hSw; (try dsimp only at hSw); go_simp; (first | done | with_reducible rfl)
      try simp only [Act.put, sb1, sb2, sb3]
      refine wpZ_take 1 10 (u := ?_) rfl (by kernel_rfl) (fun _ _ _ h => h) ⟨by rfl, ?_⟩ hH0 ?_
      rotate_left
      · intro w hSw; (try dsimp only at hSw); go_simp; (first | done | with_reducible rfl)
      try simp only [Act.put, sb1, sb2, sb3]
      refine wpZ_take 2 10 (u := ?_) rfl (by kernel_rfl) (fun _ _ _ h => h) ⟨by rfl, ?_⟩ hH0 ?_
      rotate_left
      · intro w hSw; (try dsimp only at hSw); go_simp; (first | done | with_reducible rfl)
      try simp only [Act.put, sb1, sb2, sb3]
      refine wpZ_take 3 10 (u := ?_) rfl (by kernel_rfl) (fun _ _ _ h => h) ⟨by rfl, ?_⟩ hH0 ?_
      rotate_left
      · intro w hSw; (try dsimp only at hSw); go_simp; (first | done | with_reducible rfl)
      try simp only [Act.put, sb1, sb2, sb3]
      refine wpZ_take 4 10 (u := ?_) rfl (by kernel_rfl) (fun _ _ _ h => h) ⟨by rfl, ?_⟩ hH0 ?_
      rotate_left
      · intro w hSw; (try dsimp only at hSw); go_simp; (first | done | with_reducible rfl)
      try simp only [Act.put, sb1, sb2, sb3]
      refine wpZ_take 5 10 (u := ?_) rfl (by kernel_rfl) (fun _ _ _ h => h) ⟨by rfl, ?_⟩ hH0 ?_
      rotate_left
      · intro w hSw; (try dsimp only at hSw); go_simp; (first | done | with_reducible rfl)
      try simp only [Act.put, sb1, sb2, sb3]
      refine wpZ_take 6 10 (u := ?_) rfl (by kernel_rfl) (fun _ _ _ h => h) ⟨by rfl, ?_⟩ hH0 ?_
      rotate_left
      · intro w hSw; (try dsimp only at hSw); go_simp; (first | done | with_reducible rfl)
      try simp only [Act.put, sb1, sb2, sb3]
      refine wpZ_only 7 rfl (by kernel_rfl) (by rfl) (fun K hK => ?_)
      go_simp
      go_at_call 93
      refine HLT.out.mono ?_
      rintro e w6 ⟨v, Sp, S', rfl, hv, hx6, hd6, hs6, hp6, hc6⟩
      have E6 : Exs w S g o w6 (m.moved o) := E2d.out.step (hx6.mono hs6) hc6
      go_wp2_with fail
      refine hK.out _ _ ?_ (fun hH1 => ?_)
      · exact HK14.out _ _ E6
      clear hK K hH0
      try simp only [Act.put, sb1, sb2, sb3]
      refine wpZ_last rfl (by kernel_rfl) (by kernel_rfl) (by rfl) (fun K hK => ?_)
      have hx6' : OwBox w6 S' g (m.moved o) := hx6
      have hz6 := hc6.size
      have hS6 : ∀ j, S' j → Tn S (w.heap.size + 1) w6 j := fun j q => E2d.out.nowT hz6 j (hs6 j q)
      have hl := loop_any (w := w6) (S := S') (Sp := Sp) (ps := m.on (gi o 2) (gi o 3)) (pv := v) hx6' (fun j q => E6.tlt j (hS6 j q)) hb q0 (HOKM.out.1.sdlt ⟨hb, q0, by rw [HMP.out.2.2.1]; exact hf1⟩) (by rw [HMP.out.2.2.2.1]; omega) (by rw [HOKM.out.2.2]; simp) hv (fun j q => E6.tlt j (E2d.out.nowT hz6 j (hp6 j q))) hd6 (by omega)
      unfold op8 at hl
      rw [HKD.out] at hl
      have HL := Lib.hid hl
      have HS6 := Lib.hid hS6
      have HE6 := Lib.hid E6
      clear hl hS6 E6 hx6 hx6' hv hd6 hs6 hp6 hc6 hz6
      go_simp
      go_at_call 92
      refine HL.out.mono ?_
      rintro e w9 ⟨rfl, hx9, hc9⟩
      go_wp2_with fail
      refine hK.out _ _ ?_
      clear hK K hH1
      obtain ⟨M6, hM6⟩ : ∃ x, x = (m.moved o).looped o (m.on (gi o 2) (gi o 3)) := ⟨_, rfl⟩
      rw [← hM6] at hx9
      have E9 := Lib.hid (HE6.out.step (hx9.mono fun j q => by
          rcases q with q | q
          · exact .inl (HS6.out j q)
          · exact .inr q) (hc9.mono HS6.out))
      clear y0 y1 y2 y3 y4 y5 y6 y7
      have hpp := put_parts (m.moved o) (gi o 2) (gi o 3) ((m.moved o).mine o ++ [(m.moved o).n])
      have hcr6 : M6.cr.length = 4 := by rw [hM6]; show ((m.moved o).put (gi o 2) (gi o 3) _).cr.length = 4; rw [hpp.2.2.1, HMP.out.1]; exact HOK.out.cr
      have hrk6 : -3 ≤ M6.rk ∧ M6.rk ≤ 3 := by
        have e : M6.rk = m.rk := by rw [hM6]; show ((m.moved o).put (gi o 2) (gi o 3) _).rk = m.rk; rw [hpp.2.1, HMP.out.2.1]
        rw [e]; exact hrk
      have HM6 := Lib.hid hM6
      clear hM6 hpp hx9 hc9 HL HLT HK14
      have HEXE : Hid (exeM m o = M6.setAt o) := Lib.hid (by unfold exeM; rw [if_neg (by rw [HKD.out]; decide), if_neg (by rw [HKD.out]; decide), if_neg (by rw [HKD.out]; decide), if_pos HKD.out, HM6.out]; rfl)
      obtain ⟨y0, y1, y2, y3, y4, y5, y6, y7⟩ := E9.out.cells
      rw [HKD.out] at y0
      go_wp2_with fail
      refine (mk_val (k := 5) (b := true) rfl _).mono ?_
      rintro e wz ⟨rfl, rfl⟩
      obtain ⟨cf, cb, cl, cdd, cp, cn, ccap, hxc, hcn, -, spc, -, k0, k1, f0, f1⟩ := E9.out.bx.cars Kc (by omega)
      subst hcn
      have hgW := heap_lt hxc
      have hcpW := E9.out.tlt cp spc
      have hboW : w.heap.size < w9.heap.size := by have := E9.out.sz; omega
      have HXC := Lib.hid hxc
      have HK1 := Lib.hid k1
      have HF1 := Lib.hid f1
      have hcnot : ¬ cp = w.heap.size := fun e => E9.out.not (e ▸ spc)
      clear k0 k1 f0 f1 hxc spc
      rcases hd with hd | hd
      · have HD := Lib.hid hd
        have HK28 := Lib.hid (fun (w' : World) (q : Below w9.heap.size w9 w') => show (w'.cell? ⟨w.heap.size, 6, none⟩ = some (.int .i64 ((Kc : Int) + 1)) ∧ w'.cell? ⟨w.heap.size, 2, none⟩ = some (.int .i64 (gi o 2)) ∧ w'.cell? ⟨w.heap.size, 3, none⟩ = some (.int .i64 (gi o 3)) ∧ w'.cell? ⟨w.heap.size, 1, none⟩ = some (.int .i64 (1))) ∧ w'.cell? ⟨g, 1, none⟩ = some (.int .i64 M6.rk) ∧ w'.cell? ⟨g, 4, none⟩ = some (.slice (some ⟨cp, 0, none⟩) M6.cr.length ccap) from
          ⟨⟨by rw [← HKK.out, q.cell hboW]; exact E9.out.cells.2.2.2.2.2.2.1, by rw [q.cell hboW]; exact E9.out.cells.2.2.1, by rw [q.cell hboW]; exact E9.out.cells.2.2.2.1, by rw [← HD.out, q.cell hboW]; exact E9.out.cells.2.1⟩, by rw [q.cell hgW]; exact (box7 HXC.out).1.2.1, by rw [q.cell hgW]; exact (box7 HXC.out).1.2.2.2.2.1⟩)
        obtain ⟨x0, x1⟩ := plc_bd (b := gi o 2) (a := gi o 3) (r := M6.rk) ⟨q0, q1⟩ hrk6
        have HPL := Lib.hid (fun W => iplace_any (gi o 2) (gi o 3) M6.rk W ⟨q0, q1⟩ hrk6)
        generalize hX : plc (gi o 2) (gi o 3) M6.rk = X at *
        have HX := Lib.hid hX
        rw [hd] at y1
        have hw2 : IntKind.i64.wrap 2 = 2 := by decide
        have hw1 : IntKind.i64.wrap 1 = 1 := by decide
        have hw0 : IntKind.i64.wrap 0 = 0 := by decide
        have hwx : IntKind.i64.wrap (X + 1) = X + 1 := IntWalk.i64_in _ (by omega)
        have hwy : IntKind.i64.wrap X = X := IntWalk.i64_in _ (by omega)
        clear hX hd
        go_wp2_with fail
        refine wp_region_z (fun w' => (w'.cell? ⟨w.heap.size, 6, none⟩ = some (.int .i64 ((Kc : Int) + 1)) ∧ w'.cell? ⟨w.heap.size, 2, none⟩ = some (.int .i64 (gi o 2)) ∧ w'.cell? ⟨w.heap.size, 3, none⟩ = some (.int .i64 (gi o 3)) ∧ w'.cell? ⟨w.heap.size, 1, none⟩ = some (.int .i64 (1))) ∧ w'.cell? ⟨g, 1, none⟩ = some (.int .i64 M6.rk) ∧ w'.cell? ⟨g, 4, none⟩ = some (.slice (some ⟨cp, 0, none⟩) M6.cr.length ccap)) 21 (by kernel_rfl) (HK28.out _ (Below.refl _ _).drew) (fun hH0 => ?_)
        refine wpZ_take 0 23 (u := ?_) rfl (by kernel_rfl) (fun _ _ _ h => h) ⟨by rfl, ?_⟩ hH0 ?_
        rotate_left
        · intro w hSw; (try dsimp only at hSw); go_simp; (first | done | with_reducible rfl)
        try simp only [Act.put, sb1, sb2, sb3]
        refine wpZ_take 1 23 (u := ?_) rfl (by kernel_rfl) (fun _ _ _ h => h) ⟨by rfl, ?_⟩ hH0 ?_
        rotate_left
        · intro w hSw; (try dsimp only at hSw); go_simp; (first | done | with_reducible rfl)
        try simp only [Act.put, sb1, sb2, sb3]
        refine wpZ_take 2 23 (u := ?_) rfl (by kernel_rfl) (fun _ _ _ h => h) ⟨by rfl, ?_⟩ hH0 ?_
        rotate_left
        · intro w hSw; (try dsimp only at hSw); go_simp; (first | done | with_reducible rfl)
        try simp only [Act.put, sb1, sb2, sb3]
        refine wpZ_take 3 23 (u := ?_) rfl (by kernel_rfl) (fun _ _ _ h => h) ⟨by rfl, ?_⟩ hH0 ?_
        rotate_left
        · intro w hSw; (try dsimp only at hSw); go_simp; (first | done | with_reducible rfl)
        try simp only [Act.put, sb1, sb2, sb3]
        refine wpZ_take 4 23 (u := ?_) rfl (by kernel_rfl) (fun _ _ _ h => h) ⟨by rfl, ?_⟩ hH0 ?_
        rotate_left
        · intro w hSw; (try dsimp only at hSw); go_simp; (first | done | with_reducible rfl)
        try simp only [Act.put, sb1, sb2, sb3]
        refine wpZ_take 5 23 (u := ?_) rfl (by kernel_rfl) (fun _ _ _ h => h) ⟨by rfl, ?_⟩ hH0 ?_
        rotate_left
        · intro w hSw; (try dsimp only at hSw); go_simp; (first | done | with_reducible rfl)
        try simp only [Act.put, sb1, sb2, sb3]
        refine wpZ_take 6 23 (u := ?_) rfl (by kernel_rfl) (fun _ _ _ h => h) ⟨by rfl, ?_⟩ hH0 ?_
        rotate_left
        · intro w hSw; (try dsimp only at hSw); go_simp; (first | done | with_reducible rfl)
        try simp only [Act.put, sb1, sb2, sb3]
        refine wpZ_take 7 23 (u := ?_) rfl (by kernel_rfl) (fun _ _ _ h => h) ⟨by rfl, ?_⟩ hH0 ?_
        rotate_left
        · intro w hSw; (try dsimp only at hSw); go_simp; (first | done | with_reducible rfl)
        try simp only [Act.put, sb1, sb2, sb3]
        refine wpZ_take 8 23 (u := ?_) rfl (by kernel_rfl) (fun _ _ _ h => h) ⟨by rfl, ?_⟩ hH0 ?_
        rotate_left
        · intro w hSw; (try dsimp only at hSw); go_simp; (first | done | with_reducible rfl)
        try simp only [Act.put, sb1, sb2, sb3]
        refine wpZ_take 9 23 (u := ?_) rfl (by kernel_rfl) (fun _ _ _ h => h) ⟨by rfl, ?_⟩ hH0 ?_
        rotate_left
        · intro w hSw; (try dsimp only at hSw); go_simp; (first | done | with_reducible rfl)
        try simp only [Act.put, sb1, sb2, sb3]
        refine wpZ_take 10 23 (u := ?_) rfl (by kernel_rfl) (fun _ _ _ h => h) ⟨by rfl, ?_⟩ hH0 ?_
        rotate_left
        · intro w hSw; (try dsimp only at hSw); go_simp; (first | done | with_reducible rfl)
        try simp only [Act.put, sb1, sb2, sb3]
        refine wpZ_take 11 23 (u := ?_) rfl (by kernel_rfl) (fun _ _ _ h => h) ⟨by rfl, ?_⟩ hH0 ?_
        rotate_left
        · intro w hSw; (try dsimp only at hSw); go_simp; (first | done | with_reducible rfl)
        try simp only [Act.put, sb1, sb2, sb3]
        refine wpZ_take 12 23 (u := ?_) rfl (by kernel_rfl) (fun _ _ _ h => h) ⟨by rfl, ?_⟩ hH0 ?_
        rotate_left
        · intro w hSw; (try dsimp only at hSw); go_simp; (first | done | with_reducible rfl)
        try simp only [Act.put, sb1, sb2, sb3]
        refine wpZ_take 14 23 (u := ?_) rfl (by kernel_rfl) (fun _ _ _ h => h) ⟨by rfl, ?_⟩ hH0 ?_
        rotate_left
        · intro w hSw; (try dsimp only at hSw); go_simp; (first | done | with_reducible rfl)
        try simp only [Act.put, sb1, sb2, sb3]
        refine wpZ_take 15 23 (u := ?_) rfl (by kernel_rfl) (fun _ _ _ h => h) ⟨by rfl, ?_⟩ hH0 ?_
        rotate_left
        · intro w hSw; (try dsimp only at hSw); go_simp; (first | done | with_reducible rfl)
        try simp only [Act.put, sb1, sb2, sb3]
        refine wpZ_take 16 23 (u := ?_) rfl (by kernel_rfl) (fun _ _ _ h => h) ⟨by rfl, ?_⟩ hH0 ?_
        rotate_left
        · intro w hSw; (try dsimp only at hSw); go_simp; (first | done | with_reducible rfl)
        try simp only [Act.put, sb1, sb2, sb3]
        refine wpZ_take 17 23 (u := ?_) rfl (by kernel_rfl) (fun _ _ _ h => h) ⟨by rfl, ?_⟩ hH0 ?_
        rotate_left
        · intro w hSw; (try dsimp only at hSw); go_simp; (first | done | with_reducible rfl)
        try simp only [Act.put, sb1, sb2, sb3]
        refine wpZ_only 13 rfl (by kernel_rfl) (by rfl) (fun K hK => ?_)
        go_simp
        go_at_call 96
        refine (HPL.out _).mono ?_
        rintro e w8 ⟨rfl, hq8⟩
        have b8 : Below w9.heap.size w9 w8 := Below.trans (Below.refl _ _).drew (hq8.mono (Nat.le_refl _))
        go_wp2_with fail
        refine hK.out _ _ ?_ (fun hH1 => ?_)
        · exact HK28.out _ b8
        clear hK K hH0
        try simp only [Act.put, sb1, sb2, sb3]
        refine wpZ_take 18 23 (u := ?_) rfl (by kernel_rfl) (fun _ _ _ h => h) ⟨by rfl, ?_⟩ hH1 ?_
        rotate_left
        · intro w hSw; (try dsimp only at hSw); go_simp; (first | done | with_reducible rfl)
        try simp only [Act.put, sb1, sb2, sb3]
        refine wpZ_take 19 23 (u := ?_) rfl (by kernel_rfl) (fun _ _ _ h => h) ⟨by rfl, ?_⟩ hH1 ?_
        rotate_left
        · intro w hSw; (try dsimp only at hSw); go_simp; (first | done | with_reducible rfl)
        try simp only [Act.put, sb1, sb2, sb3]
        refine wpZ_take 20 23 (u := ?_) rfl (by kernel_rfl) (fun _ _ _ h => h) ⟨by rfl, ?_⟩ hH1 ?_
        rotate_left
        · intro w hSw; (try dsimp only at hSw); go_simp; (first | done | with_reducible rfl)
        try simp only [Act.put, sb1, sb2, sb3]
        refine wpZ_last rfl (by kernel_rfl) (by kernel_rfl) (by rfl) (fun K hK => ?_)
        have k8 : w8.cell? ⟨cp, Kc * 2 + 1, none⟩ = _ := (b8.cell (p := ⟨cp, Kc * 2 + 1, none⟩) hcpW).trans HK1.out
        have f8 : w8.frozen? ⟨cp, Kc * 2 + 1, none⟩ = false := (b8.frozen (p := ⟨cp, Kc * 2 + 1, none⟩) hcpW).trans HF1.out
        go_simp
        refine hK.out _ _ ?_
        clear hK K hH1
        have E8 := E9.out.below b8
        obtain ⟨h9, ch9, -⟩ := E8.bx.carX (keep_fwd b8 HXC.out) Kc (by omega) (X + 1)
        have E9 := Lib.hid (E8.step (h9.mono fun j q => .inl q) ch9)
        have HEQ : Hid (M6.setAt o = { M6 with cr := M6.cr.set Kc ((gc M6.cr Kc).1, X + 1) }) := Lib.hid (setAt_eqK HKK.out _ (by rw [HX.out, HD.out]; rfl))
        clear E8 h9 ch9 k8 f8 b8 hq8 HK28
        generalize w8.setCell ⟨cp, Kc * 2 + 1, none⟩ (.int .i64 (X + 1)) = w9 at *
        go_wp2
        go_ret
        exact ⟨rfl, by rw [HEXE.out, HEQ.out]; exact E9.out.fin, E9.out.ch⟩
      · have HD := Lib.hid hd
        have HK28 := Lib.hid (fun (w' : World) (q : Below w9.heap.size w9 w') => show (w'.cell? ⟨w.heap.size, 6, none⟩ = some (.int .i64 ((Kc : Int) + 1)) ∧ w'.cell? ⟨w.heap.size, 2, none⟩ = some (.int .i64 (gi o 2)) ∧ w'.cell? ⟨w.heap.size, 3, none⟩ = some (.int .i64 (gi o 3)) ∧ w'.cell? ⟨w.heap.size, 1, none⟩ = some (.int .i64 (-1))) ∧ w'.cell? ⟨g, 1, none⟩ = some (.int .i64 M6.rk) ∧ w'.cell? ⟨g, 4, none⟩ = some (.slice (some ⟨cp, 0, none⟩) M6.cr.length ccap) from
          ⟨⟨by rw [← HKK.out, q.cell hboW]; exact E9.out.cells.2.2.2.2.2.2.1, by rw [q.cell hboW]; exact E9.out.cells.2.2.1, by rw [q.cell hboW]; exact E9.out.cells.2.2.2.1, by rw [← HD.out, q.cell hboW]; exact E9.out.cells.2.1⟩, by rw [q.cell hgW]; exact (box7 HXC.out).1.2.1, by rw [q.cell hgW]; exact (box7 HXC.out).1.2.2.2.2.1⟩)
        obtain ⟨x0, x1⟩ := plc_bd (b := gi o 2) (a := gi o 3) (r := M6.rk) ⟨q0, q1⟩ hrk6
        have HPL := Lib.hid (fun W => iplace_any (gi o 2) (gi o 3) M6.rk W ⟨q0, q1⟩ hrk6)
        generalize hX : plc (gi o 2) (gi o 3) M6.rk = X at *
        have HX := Lib.hid hX
        rw [hd] at y1
        have hw2 : IntKind.i64.wrap 2 = 2 := by decide
        have hw1 : IntKind.i64.wrap 1 = 1 := by decide
        have hw0 : IntKind.i64.wrap 0 = 0 := by decide
        have hwx : IntKind.i64.wrap (X + 1) = X + 1 := IntWalk.i64_in _ (by omega)
        have hwy : IntKind.i64.wrap X = X := IntWalk.i64_in _ (by omega)
        clear hX hd
        go_wp2_with fail
        refine wp_region_z (fun w' => (w'.cell? ⟨w.heap.size, 6, none⟩ = some (.int .i64 ((Kc : Int) + 1)) ∧ w'.cell? ⟨w.heap.size, 2, none⟩ = some (.int .i64 (gi o 2)) ∧ w'.cell? ⟨w.heap.size, 3, none⟩ = some (.int .i64 (gi o 3)) ∧ w'.cell? ⟨w.heap.size, 1, none⟩ = some (.int .i64 (-1))) ∧ w'.cell? ⟨g, 1, none⟩ = some (.int .i64 M6.rk) ∧ w'.cell? ⟨g, 4, none⟩ = some (.slice (some ⟨cp, 0, none⟩) M6.cr.length ccap)) 21 (by kernel_rfl) (HK28.out _ (Below.refl _ _).drew) (fun hH0 => ?_)
        refine wpZ_take 0 23 (u := ?_) rfl (by kernel_rfl) (fun _ _ _ h => h) ⟨by rfl, ?_⟩ hH0 ?_
        rotate_left
        · intro w hSw; (try dsimp only at hSw); go_simp; (first | done | with_reducible rfl)
        try simp only [Act.put, sb1, sb2, sb3]
        refine wpZ_take 1 23 (u := ?_) rfl (by kernel_rfl) (fun _ _ _ h => h) ⟨by rfl, ?_⟩ hH0 ?_
        rotate_left
        · intro w hSw; (try dsimp only at hSw); go_simp; (first | done | with_reducible rfl)
        try simp only [Act.put, sb1, sb2, sb3]
        refine wpZ_take 2 23 (u := ?_) rfl (by kernel_rfl) (fun _ _ _ h => h) ⟨by rfl, ?_⟩ hH0 ?_
        rotate_left
        · intro w hSw; (try dsimp only at hSw); go_simp; (first | done | with_reducible rfl)
        try simp only [Act.put, sb1, sb2, sb3]
        refine wpZ_take 3 23 (u := ?_) rfl (by kernel_rfl) (fun _ _ _ h => h) ⟨by rfl, ?_⟩ hH0 ?_
        rotate_left
        · intro w hSw; (try dsimp only at hSw); go_simp; (first | done | with_reducible rfl)
        try simp only [Act.put, sb1, sb2, sb3]
        refine wpZ_take 4 23 (u := ?_) rfl (by kernel_rfl) (fun _ _ _ h => h) ⟨by rfl, ?_⟩ hH0 ?_
        rotate_left
        · intro w hSw; (try dsimp only at hSw); go_simp; (first | done | with_reducible rfl)
        try simp only [Act.put, sb1, sb2, sb3]
        refine wpZ_take 5 23 (u := ?_) rfl (by kernel_rfl) (fun _ _ _ h => h) ⟨by rfl, ?_⟩ hH0 ?_
        rotate_left
        · intro w hSw; (try dsimp only at hSw); go_simp; (first | done | with_reducible rfl)
        try simp only [Act.put, sb1, sb2, sb3]
        refine wpZ_take 6 23 (u := ?_) rfl (by kernel_rfl) (fun _ _ _ h => h) ⟨by rfl, ?_⟩ hH0 ?_
        rotate_left
        · intro w hSw; (try dsimp only at hSw); go_simp; (first | done | with_reducible rfl)
        try simp only [Act.put, sb1, sb2, sb3]
        refine wpZ_take 7 23 (u := ?_) rfl (by kernel_rfl) (fun _ _ _ h => h) ⟨by rfl, ?_⟩ hH0 ?_
        rotate_left
        · intro w hSw; (try dsimp only at hSw); go_simp; (first | done | with_reducible rfl)
        try simp only [Act.put, sb1, sb2, sb3]
        refine wpZ_take 8 23 (u := ?_) rfl (by kernel_rfl) (fun _ _ _ h => h) ⟨by rfl, ?_⟩ hH0 ?_
        rotate_left
        · intro w hSw; (try dsimp only at hSw); go_simp; (first | done | with_reducible rfl)
        try simp only [Act.put, sb1, sb2, sb3]
        refine wpZ_take 9 23 (u := ?_) rfl (by kernel_rfl) (fun _ _ _ h => h) ⟨by rfl, ?_⟩ hH0 ?_
        rotate_left
        · intro w hSw; (try dsimp only at hSw); go_simp; (first | done | with_reducible rfl)
        try simp only [Act.put, sb1, sb2, sb3]
        refine wpZ_take 10 23 (u := ?_) rfl (by kernel_rfl) (fun _ _ _ h => h) ⟨by rfl, ?_⟩ hH0 ?_
        rotate_left
        · intro w hSw; (try dsimp only at hSw); go_simp; (first | done | with_reducible rfl)
        try simp only [Act.put, sb1, sb2, sb3]
        refine wpZ_take 11 23 (u := ?_) rfl (by kernel_rfl) (fun _ _ _ h => h) ⟨by rfl, ?_⟩ hH0 ?_
        rotate_left
        · intro w hSw; (try dsimp only at hSw); go_simp; (first | done | with_reducible rfl)
        try simp only [Act.put, sb1, sb2, sb3]
        refine wpZ_take 12 23 (u := ?_) rfl (by kernel_rfl) (fun _ _ _ h => h) ⟨by rfl, ?_⟩ hH0 ?_
        rotate_left
        · intro w hSw; (try dsimp only at hSw); go_simp; (first | done | with_reducible rfl)
        try simp only [Act.put, sb1, sb2, sb3]
        refine wpZ_take 14 23 (u := ?_) rfl (by kernel_rfl) (fun _ _ _ h => h) ⟨by rfl, ?_⟩ hH0 ?_
        rotate_left
        · intro w hSw; (try dsimp only at hSw); go_simp; (first | done | with_reducible rfl)
        try simp only [Act.put, sb1, sb2, sb3]
        refine wpZ_take 15 23 (u := ?_) rfl (by kernel_rfl) (fun _ _ _ h => h) ⟨by rfl, ?_⟩ hH0 ?_
        rotate_left
        · intro w hSw; (try dsimp only at hSw); go_simp; (first | done | with_reducible rfl)
        try simp only [Act.put, sb1, sb2, sb3]
        refine wpZ_take 16 23 (u := ?_) rfl (by kernel_rfl) (fun _ _ _ h => h) ⟨by rfl, ?_⟩ hH0 ?_
        rotate_left
        · intro w hSw; (try dsimp only at hSw); go_simp; (first | done | with_reducible rfl)
        try simp only [Act.put, sb1, sb2, sb3]
        refine wpZ_take 17 23 (u := ?_) rfl (by kernel_rfl) (fun _ _ _ h => h) ⟨by rfl, ?_⟩ hH0 ?_
        rotate_left
        · intro w hSw; (try dsimp only at hSw); go_simp; (first | done | with_reducible rfl)
        try simp only [Act.put, sb1, sb2, sb3]
        refine wpZ_only 13 rfl (by kernel_rfl) (by rfl) (fun K hK => ?_)
        go_simp
        go_at_call 96
        refine (HPL.out _).mono ?_
        rintro e w8 ⟨rfl, hq8⟩
        have b8 : Below w9.heap.size w9 w8 := Below.trans (Below.refl _ _).drew (hq8.mono (Nat.le_refl _))
        go_wp2_with fail
        refine hK.out _ _ ?_ (fun hH1 => ?_)
        · exact HK28.out _ b8
        clear hK K hH0
        try simp only [Act.put, sb1, sb2, sb3]
        refine wpZ_take 18 23 (u := ?_) rfl (by kernel_rfl) (fun _ _ _ h => h) ⟨by rfl, ?_⟩ hH1 ?_
        rotate_left
        · intro w hSw; (try dsimp only at hSw); go_simp; (first | done | with_reducible rfl)
        try simp only [Act.put, sb1, sb2, sb3]
        refine wpZ_take 19 23 (u := ?_) rfl (by kernel_rfl) (fun _ _ _ h => h) ⟨by rfl, ?_⟩ hH1 ?_
        rotate_left
        · intro w hSw; (try dsimp only at hSw); go_simp; (first | done | with_reducible rfl)
        try simp only [Act.put, sb1, sb2, sb3]
        refine wpZ_take 20 23 (u := ?_) rfl (by kernel_rfl) (fun _ _ _ h => h) ⟨by rfl, ?_⟩ hH1 ?_
        rotate_left
        · intro w hSw; (try dsimp only at hSw); go_simp; (first | done | with_reducible rfl)
        try simp only [Act.put, sb1, sb2, sb3]
        refine wpZ_last rfl (by kernel_rfl) (by kernel_rfl) (by rfl) (fun K hK => ?_)
        have k8 : w8.cell? ⟨cp, Kc * 2 + 1, none⟩ = _ := (b8.cell (p := ⟨cp, Kc * 2 + 1, none⟩) hcpW).trans HK1.out
        have f8 : w8.frozen? ⟨cp, Kc * 2 + 1, none⟩ = false := (b8.frozen (p := ⟨cp, Kc * 2 + 1, none⟩) hcpW).trans HF1.out
        go_simp
        refine hK.out _ _ ?_
        clear hK K hH1
        have E8 := E9.out.below b8
        obtain ⟨h9, ch9, -⟩ := E8.bx.carX (keep_fwd b8 HXC.out) Kc (by omega) (X)
        have E9 := Lib.hid (E8.step (h9.mono fun j q => .inl q) ch9)
        have HEQ : Hid (M6.setAt o = { M6 with cr := M6.cr.set Kc ((gc M6.cr Kc).1, X) }) := Lib.hid (setAt_eqK HKK.out _ (by rw [HX.out, HD.out]; simp))
        clear E8 h9 ch9 k8 f8 b8 hq8 HK28
        generalize w8.setCell ⟨cp, Kc * 2 + 1, none⟩ (.int .i64 (X)) = w9 at *
        go_wp2
        go_ret
        exact ⟨rfl, by rw [HEXE.out, HEQ.out]; exact E9.out.fin, E9.out.ch⟩
    · have HKD := Lib.hid hk
      have hn : m.ndl (gi o 2) (gi o 3) := ⟨hb, q0, hf1⟩
      obtain ⟨rf, rb, rc, rl, rd, p, n, cap, u, S2, hxr, hs, kn, hcu, hfu, hru, s2, ns2, sp, sg, ns2g, pg, put⟩ := E2.out.bx.rowF (gi o 2) (gi o 3).toNat (HOK.out.sdlt hn) E2.out.tlt
      rw [Int.toNat_of_nonneg q0] at put
      have hsl := rw_sl hru fun j q => E2.out.tlt j (s2 j q)
      obtain ⟨UA, uc, rfl, -⟩ := id hsl
      have hrl : (m.on (gi o 2) (gi o 3)).length ≤ 4 := on_len HOK.out hn
      have hpW := E2.out.tlt p sp
      have hgW := heap_lt hxr
      have hpnot : ¬ p = w.heap.size := fun e => E2.out.not (e ▸ sp)
      have hpnot2 : ¬ w.heap.size = p := fun e => hpnot e.symm
      have HON : Hid (∀ W : World, W.heap[g]? = w2.heap[g]? → Calls Tryz.prog 91 #[.pointer (some ⟨g, 0, none⟩), .agg #[.int .i64 (gi o 2), .int .i64 (gi o 3)]] W fun e w2 => e = .returned (.pointer (some ⟨p, (gi o 3).toNat, none⟩)) ∧ Below W.heap.size W w2) := Lib.hid fun W q => by
        have := on_any (w := W) (q.trans hxr) hb (show gi o 3 = ((gi o 3).toNat : Int) from (Int.toNat_of_nonneg q0).symm) kn hs
        simpa using this
      have HPUT := Lib.hid put
      have HRU := Lib.hid hru
      have HCU := Lib.hid hcu
      have HFU := Lib.hid hfu
      have HS2 := Lib.hid (And.intro s2 (And.intro ns2 (And.intro ns2g (And.intro sp pg))))
      have HSL := Lib.hid hsl
      have HNN := Lib.hid hn
      have HXR := Lib.hid hxr
      have HSQ := Lib.hid hs
      clear put hru hcu hfu s2 ns2 ns2g sp pg hsl hn hxr hs kn
      have hml : 0 < (m.on (gi o 2) (gi o 3)).length := by
        have h7 := HCM.out
        unfold codeM at h7
        simp only [HKD.out] at h7
        rcases Nat.eq_zero_or_pos (m.on (gi o 2) (gi o 3)).length with q | q
        · exfalso
          have q' : (m.mine o).length = 0 := q
          simp [q'] at h7
        · exact q
      have hdl := HOK.out.drLen
      obtain ⟨df, db, dc, dl, dd, Sd, hxd, hrd, sd1, sgd, nsg, putd⟩ := E2.out.bx.drop E2.out.tlt
      obtain ⟨DA, dcap, rfl⟩ : ∃ A c, dd = .slice A m.dr.length c := by
        obtain ⟨A, c, e, -⟩ := rw_sl hrd fun j q => E2.out.tlt j (sd1 j q)
        exact ⟨A, c, e⟩
      have HDO := Lib.hid (fun j (q : (Value.slice DA m.dr.length dcap).ownBlock = some j) => hrd.2 j q)
      have hpd : ∀ j, (Value.slice DA m.dr.length dcap).ownBlock = some j → p ≠ j := fun j q => E2.out.bx.dropNe hxd (bed := gi o 2) (by rw [← (box7_inj HXR.out hxd).1, ← (box7_inj HXR.out hxd).2]; exact HSQ.out) q
      have HPD := Lib.hid hpd
      have HDR : Hid (OwR 2 1 w2 0 w2.heap.size (.slice DA m.dr.length dcap) m.dr.length (vals m.dr)) := Lib.hid ⟨hrd.1, fun j q => E2.out.tlt j (sd1 j (hrd.2 j q))⟩
      have HXD := Lib.hid hxd
      have HPUTD := Lib.hid putd
      have HSD := Lib.hid (And.intro sd1 (And.intro sgd nsg))
      have HK16 := Lib.hid (fun (w' : World) (q : Below w2.heap.size w2 w') => show (w'.cell? ⟨w.heap.size, 2, none⟩ = some (.int .i64 (gi o 2)) ∧ w'.cell? ⟨w.heap.size, 3, none⟩ = some (.int .i64 (gi o 3))) ∧ w'.cell? ⟨g, 6, none⟩ = some (.slice DA m.dr.length dcap) ∧ w'.cell? ⟨p, (gi o 3).toNat, none⟩ = some (.slice UA (m.on (gi o 2) (gi o 3)).length uc) from
        ⟨⟨by rw [q.cell (by have := E2.out.sz; simp only; omega)]; exact E2.out.cells.2.2.1, by rw [q.cell (by have := E2.out.sz; simp only; omega)]; exact E2.out.cells.2.2.2.1⟩, by rw [q.cell hgW]; exact (box7 hxd).1.2.2.2.2.2.2, (q.cell (p := ⟨p, (gi o 3).toNat, none⟩) hpW).trans HCU.out⟩)
      have hcl := HSL.out.vals
      have HAn := Lib.hid (show UA = none → (m.on (gi o 2) (gi o 3)).length = 0 ∧ uc = 0 from hcl.2.1)
      have hboW : w.heap.size < w2.heap.size := by have := E2.out.sz; omega
      clear hk hxd hrd sd1 sgd nsg putd hcl hpd
      obtain ⟨y0, y1, y2, y3, y4, y5, y6, y7⟩ := E2.out.cells
      rw [HKD.out] at y0
      go_wp2_with fail
      refine wp_region_z (fun w' => (w'.cell? ⟨w.heap.size, 2, none⟩ = some (.int .i64 (gi o 2)) ∧ w'.cell? ⟨w.heap.size, 3, none⟩ = some (.int .i64 (gi o 3))) ∧ w'.cell? ⟨g, 6, none⟩ = some (.slice DA m.dr.length dcap) ∧ w'.cell? ⟨p, (gi o 3).toNat, none⟩ = some (.slice UA (m.on (gi o 2) (gi o 3)).length uc)) 14 (by kernel_rfl) (HK16.out _ (Below.refl _ _).drew) (fun hH0 => ?_)
      refine wpZ_take 0 16 (u := ?_) rfl (by kernel_rfl) (fun _ _ _ h => h) ⟨by rfl, ?_⟩ hH0 ?_
      rotate_left
      · intro w hSw; (try dsimp only at hSw); go_simp; (first | done | with_reducible rfl)
      try simp only [Act.put, sb1, sb2, sb3]
      refine wpZ_take 1 16 (u := ?_) rfl (by kernel_rfl) (fun _ _ _ h => h) ⟨by rfl, ?_⟩ hH0 ?_
      rotate_left
      · intro w hSw; (try dsimp only at hSw); go_simp; (first | done | with_reducible rfl)
      try simp only [Act.put, sb1, sb2, sb3]
      refine wpZ_take 2 16 (u := ?_) rfl (by kernel_rfl) (fun _ _ _ h => h) ⟨by rfl, ?_⟩ hH0 ?_
      rotate_left
      · intro w hSw; (try dsimp only at hSw); go_simp; (first | done | with_reducible rfl)
      try simp only [Act.put, sb1, sb2, sb3]
      refine wpZ_take 3 16 (u := ?_) rfl (by kernel_rfl) (fun _ _ _ h => h) ⟨by rfl, ?_⟩ hH0 ?_
      rotate_left
      · intro w hSw; (try dsimp only at hSw); go_simp; (first | done | with_reducible rfl)
      try simp only [Act.put, sb1, sb2, sb3]
      refine wpZ_take 4 16 (u := ?_) rfl (by kernel_rfl) (fun _ _ _ h => h) ⟨by rfl, ?_⟩ hH0 ?_
      rotate_left
      · intro w hSw; (try dsimp only at hSw); go_simp; (first | done | with_reducible rfl)
      try simp only [Act.put, sb1, sb2, sb3]
      refine wpZ_take 5 16 (u := ?_) rfl (by kernel_rfl) (fun _ _ _ h => h) ⟨by rfl, ?_⟩ hH0 ?_
      rotate_left
      · intro w hSw; (try dsimp only at hSw); go_simp; (first | done | with_reducible rfl)
      try simp only [Act.put, sb1, sb2, sb3]
      refine wpZ_take 6 16 (u := ?_) rfl (by kernel_rfl) (fun _ _ _ h => h) ⟨by rfl, ?_⟩ hH0 ?_
      rotate_left
      · intro w hSw; (try dsimp only at hSw); go_simp; (first | done | with_reducible rfl)
      try simp only [Act.put, sb1, sb2, sb3]
      refine wpZ_take 7 16 (u := ?_) rfl (by kernel_rfl) (fun _ _ _ h => h) ⟨by rfl, ?_⟩ hH0 ?_
      rotate_left
      · intro w hSw; (try dsimp only at hSw); go_simp; (first | done | with_reducible rfl)
      try simp only [Act.put, sb1, sb2, sb3]
      refine wpZ_only 8 rfl (by kernel_rfl) (by rfl) (fun K hK => ?_)
      go_simp
      go_at_call 91
      refine (HON.out w2.drew rfl).mono ?_
      rintro e w3 ⟨rfl, hq3⟩
      have b3 : Below w2.heap.size w2 w3 := Below.trans (Below.refl _ _).drew (hq3.mono (Nat.le_refl _))
      go_wp2_with fail
      refine hK.out _ _ ?_ (fun hH1 => ?_)
      · exact HK16.out _ b3
      clear hK K hH0
      try simp only [Act.put, sb1, sb2, sb3]
      refine wpZ_take 9 16 (u := ?_) rfl (by kernel_rfl) (fun _ _ _ h => h) ⟨by rfl, ?_⟩ hH1 ?_
      rotate_left
      · intro w hSw; (try dsimp only at hSw); go_simp; (first | done | with_reducible rfl)
      try simp only [Act.put, sb1, sb2, sb3]
      refine wpZ_take 10 16 (u := ?_) rfl (by kernel_rfl) (fun _ _ _ h => h) ⟨by rfl, ?_⟩ hH1 ?_
      rotate_left
      · intro w hSw; (try dsimp only at hSw); go_simp; (first | done | with_reducible rfl)
      try simp only [Act.put, sb1, sb2, sb3]
      refine wpZ_only 11 rfl (by kernel_rfl) (by rfl) (fun K hK => ?_)
      have hsl3 := (HSL.out.below b3 (Nat.le_refl _)).vals
      refine op_append_cells Tryz.underlying33 i64_info rfl (by decide) (by decide) _ _ rfl w3 0 w2.heap.size UA (m.on (gi o 2) (gi o 3)).length uc (.slice DA m.dr.length dcap) m.dr.length (vals m.dr) (vals (m.on (gi o 2) (gi o 3))) rfl rfl HAn.out hsl3.2.2 (HDR.out.below b3 (Nat.le_refl _)) (Nat.zero_le _) (by omega) (by rw [vals_len]; omega) (vals_one _) ?_
      intro v4 w4 hv4 hg4 hl4
      have hz3 := b3.size
      have e6 := (hg4.block g (by omega) (fun e => HSD.out.2.2 (HDO.out g e.symm))).trans (b3.block g hgW)
      have ep := (hg4.block p (by omega) (fun e => HPD.out p e.symm rfl)).trans (b3.block p hpW)
      have eo := (hg4.block w.heap.size (by omega) (fun e => E2.out.not (HSD.out.1 _ (HDO.out _ e.symm)))).trans (b3.block w.heap.size hboW)
      have k16 := HK16.out w2 (Below.refl _ _)
      obtain ⟨Q4, q4, rfl⟩ : ∃ q cap, v4 = .slice (some ⟨q, 0, none⟩) (m.dr.length + (m.on (gi o 2) (gi o 3)).length) cap := by
        rcases hv4.form with ⟨-, h0, -⟩ | ⟨q, cap, e, -⟩
        · omega
        · exact ⟨q, cap, e⟩
      refine hK.out _ _ ?_ (fun hH2 => ?_)
      · simp only [World.cell?, e6, ep, eo] at k16 ⊢; exact k16
      clear hK K hH1
      try simp only [Act.put, sb1, sb2, sb3]
      refine wpZ_take 12 16 (u := ?_) rfl (by kernel_rfl) (fun _ _ _ h => h) ⟨by rfl, ?_⟩ hH2 ?_
      rotate_left
      · intro w hSw; (try dsimp only at hSw); go_simp; (first | done | with_reducible rfl)
      try simp only [Act.put, sb1, sb2, sb3]
      refine wpZ_take 13 16 (u := ?_) rfl (by kernel_rfl) (fun _ _ _ h => h) ⟨by rfl, ?_⟩ hH2 ?_
      rotate_left
      · intro w hSw; (try dsimp only at hSw); go_simp; (first | done | with_reducible rfl)
      try simp only [Act.put, sb1, sb2, sb3]
      refine wpZ_last rfl (by kernel_rfl) (by kernel_rfl) (by rfl) (fun K hK => ?_)
      have f6 : w4.frozen? ⟨g, 6, none⟩ = false := by have := (box7 HXD.out).2.1 6; simp only [World.frozen?, e6] at this ⊢; exact this
      go_simp
      refine hK.out _ _ ?_
      clear hK K hH2
      have hx4 : w4.heap[g]? = _ := e6.trans HXD.out
      have hch : ∀ T : Nat → Prop, (∀ j, (Value.slice DA m.dr.length dcap).ownBlock = some j → T j) → ChgS T w2 w4 := fun T hT => ⟨hg4.os.trans b3.os, hg4.tape.trans b3.tape, hg4.output.trans b3.output, Nat.le_trans hz3 hg4.size, fun j hj hn => (hg4.block j (by omega) (fun e => hn (hT j e.symm))).trans (b3.block j hj)⟩
      obtain ⟨zs, hzs⟩ : ∃ zs, zs = m.dr ++ m.on (gi o 2) (gi o 3) := ⟨_, rfl⟩
      have hzl : zs.length = m.dr.length + (m.on (gi o 2) (gi o 3)).length := by rw [hzs, List.length_append]
      have hrz : (rw_ (.slice (some ⟨Q4, 0, none⟩) (m.dr.length + (m.on (gi o 2) (gi o 3)).length) q4) zs).p w4 (fun j => j = Q4) := ⟨by rw [hzl, hzs, vals_append]; exact hv4.1, fun j q => by simp [Value.ownBlock] at q; exact q.symm⟩
      have hQ : (∃ j, (Value.slice DA m.dr.length dcap).ownBlock = some j ∧ j = Q4) ∨ w2.heap.size ≤ Q4 := by
        rcases hl4 with e | e
        · exact .inl ⟨Q4, by rw [← e]; rfl, rfl⟩
        · exact .inr (Nat.le_trans hz3 (e Q4 rfl))
      have hQl := (hv4.1.lt Q4 rfl).2
      have h5 := HPUTD.out _ zs w4 _ hrz (fun j q q2 => by
        subst q
        rcases hQ with ⟨i, q3, rfl⟩ | q3
        · exact HDO.out _ q3
        · exact absurd (E2.out.tlt _ q2) (by omega)) (hch _ HDO.out)
      have hc5 := ChgS.setC (p := ⟨g, 6, none⟩) (hch (Tn S (w.heap.size + 1) w2) fun j q => HSD.out.1 j (HDO.out j q)) (.slice (some ⟨Q4, 0, none⟩) (m.dr.length + (m.on (gi o 2) (gi o 3)).length) q4) HSD.out.2.1
      have hz5 : (w4.setCell ⟨g, 6, none⟩ (.slice (some ⟨Q4, 0, none⟩) (m.dr.length + (m.on (gi o 2) (gi o 3)).length) q4)).heap.size = w4.heap.size := by simp [World.setCell]
      have hx5 := heap_setCell_at (k := 6) (.slice (some ⟨Q4, 0, none⟩) (m.dr.length + (m.on (gi o 2) (gi o 3)).length) q4) hx4
      have E5 : Hid (Exs w S g o (w4.setCell ⟨g, 6, none⟩ (.slice (some ⟨Q4, 0, none⟩) (m.dr.length + (m.on (gi o 2) (gi o 3)).length) q4)) { m with dr := zs }) := Lib.hid (E2.out.step (h5.mono fun j q => by
        rcases q with q | q
        · exact .inl q
        · subst q
          rcases hQ with ⟨i, q3, rfl⟩ | q3
          · exact .inl (HSD.out.1 _ (HDO.out _ q3))
          · exact .inr ⟨q3, by rw [hz5]; exact hQl⟩) hc5)
      have HX5 := Lib.hid hx5
      have HZS := Lib.hid hzs
      clear hx4 hch hrz hQ h5 hc5 hx5 hzs hv4 hg4 hl4 e6 ep eo k16 hsl3 b3 hq3 f6 hz3
      generalize w4.setCell ⟨g, 6, none⟩ (.slice (some ⟨Q4, 0, none⟩) (m.dr.length + (m.on (gi o 2) (gi o 3)).length) q4) = w5 at *
      clear y0 y1 y2 y3 y4 y5 y6 y7
      have c6 : w5.cell? ⟨g, 6, none⟩ = some (.slice (some ⟨Q4, 0, none⟩) (m.dr.length + (m.on (gi o 2) (gi o 3)).length) q4) := cell_of_row w5 g 6 _ _ (0, 0) HX5.out
      obtain ⟨af, ab, ac, al, ad, Sa, hxa, hra, sa1, sga, nsa, puta⟩ := E5.out.bx.dropIn E5.out.tlt
      have ead : ad = .slice (some ⟨Q4, 0, none⟩) (m.dr.length + (m.on (gi o 2) (gi o 3)).length) q4 := by
        have := (box7 hxa).1.2.2.2.2.2.2.symm.trans c6
        exact Option.some.inj this
      subst ead
      have HSORT := Lib.hid (sort_own hra (fun j q => E5.out.tlt j (sa1 j q)) (show zs.length ≤ 1000000 by omega))
      have HPA := Lib.hid puta
      have HSA := Lib.hid sa1
      clear hxa hra sa1 sga nsa puta
      go_wp2_with fail
      refine HSORT.out.mono ?_
      rintro e w6 ⟨rfl, hr6, hc6⟩
      have E6 := Lib.hid (E5.out.step ((HPA.out (srt zs) w6 hr6 hc6).mono fun j q => .inl q) (hc6.mono HSA.out))
      clear hr6 hc6 c6 HPA HSORT
      obtain ⟨rf', rb', rc', rl', rd', p', n', cap', u', S2', hxr, hs, kn, hcu, hfu, hru, s2, ns2, sp, sg, ns2g, pg, put⟩ := E6.out.bx.rowF (gi o 2) (gi o 3).toNat (show (gi o 3).toNat < (m.sd (gi o 2)).length from HOK.out.sdlt HNN.out) E6.out.tlt
      rw [Int.toNat_of_nonneg q0] at put
      have hsl := rw_sl hru fun j q => E6.out.tlt j (s2 j q)
      obtain ⟨UA', uc', rfl, -⟩ := id hsl
      have hpW' := E6.out.tlt p' sp
      have hgW' := heap_lt hxr
      have hpnot' : ¬ p' = w.heap.size := fun e => E6.out.not (e ▸ sp)
      have hpnot2' : ¬ w.heap.size = p' := fun e => hpnot' e.symm
      have HON' : Hid (∀ W : World, W.heap[g]? = w6.heap[g]? → Calls Tryz.prog 91 #[.pointer (some ⟨g, 0, none⟩), .agg #[.int .i64 (gi o 2), .int .i64 (gi o 3)]] W fun e w2 => e = .returned (.pointer (some ⟨p', (gi o 3).toNat, none⟩)) ∧ Below W.heap.size W w2) := Lib.hid fun W q => by
        have := on_any (w := W) (q.trans hxr) hb (show gi o 3 = ((gi o 3).toNat : Int) from (Int.toNat_of_nonneg q0).symm) kn hs
        simpa using this
      have HPUT' := Lib.hid put
      have HRU' := Lib.hid hru
      have HCU' := Lib.hid hcu
      have HFU' := Lib.hid hfu
      have HS2' := Lib.hid (And.intro s2 (And.intro ns2 (And.intro ns2g (And.intro sp pg))))
      have HSL' := Lib.hid hsl
      clear put hru hcu hfu s2 ns2 ns2g sp pg hsl hxr hs kn
      obtain ⟨y0, y1, y2, y3, y4, y5, y6, y7⟩ := E6.out.cells
      rw [HKD.out] at y0
      go_wp2_with fail
      refine (HON'.out _ rfl).mono ?_
      rintro e w7 ⟨rfl, hq7⟩
      have r7 := (hq7.cell (p := ⟨p', (gi o 3).toNat, none⟩) hpW').trans HCU'.out
      have f7 := (hq7.frozen (p := ⟨p', (gi o 3).toNat, none⟩) hpW').trans HFU'.out
      have h8 := HPUT'.out (.slice none 0 0) [] w7 (fun _ => False) ⟨World.ownsRow_nil _ _ _ _, by simp [Value.ownBlock]⟩ (fun j q => q.elim) (ChgS.of_below hq7)
      have hc8 : ChgS (Tn S (w.heap.size + 1) w6) w6 (w7.setCell ⟨p', (gi o 3).toNat, none⟩ (.slice none 0 0)) := ChgS.setC (ChgS.of_below hq7) _ HS2'.out.2.2.2.1
      have E8 := Lib.hid (E6.out.step (h8.mono fun j q => by
        rcases q with q | q
        · exact .inl q.1
        · exact q.elim) hc8)
      have E7 := E6.out.below hq7
      clear y0 y1 y2 y3 y4 y5 y6 y7
      obtain ⟨y0, y1, y2, y3, y4, y5, y6, y7⟩ := E7.cells
      rw [HKD.out] at y0
      clear h8 hc8 E7 hq7
      go_wp2_with fail
      generalize w7.setCell ⟨p', (gi o 3).toNat, none⟩ (.slice none 0 0) = w8 at *
      clear r7 f7
      clear y0 y1 y2 y3 y4 y5 y6 y7
      have HSRT : Hid (srt zs = putAll m.dr (m.mine o)) := Lib.hid (putAll_of_perm HOK.out.dr (fun x => HOK.out.drop_cnt HNN.out x) (by rw [HZS.out]; exact srt_perm _) (srt_sorted _))
      have HEXE : Hid (exeM m o = ({ m with dr := srt zs } : Mac).put (gi o 2) (gi o 3) []) := Lib.hid (by unfold exeM; rw [if_neg (by rw [HKD.out]; decide), if_neg (by rw [HKD.out]; decide), if_neg (by rw [HKD.out]; decide), if_neg (by rw [HKD.out]; decide), if_neg (by rw [HKD.out]; decide), if_pos HKD.out]; rw [← HSRT.out]; rfl)
      obtain ⟨y0, y1, y2, y3, y4, y5, y6, y7⟩ := E8.out.cells
      rw [HKD.out] at y0
      go_wp2_with fail
      refine (mk_val (k := 6) (b := false) rfl _).mono ?_
      rintro e wz ⟨rfl, rfl⟩
      go_wp2
      go_ret
      exact ⟨rfl, by rw [HEXE.out]; exact E8.out.fin, E8.out.ch⟩
    · have HKD := Lib.hid hk
      clear hk
      obtain ⟨h9, hc9⟩ := E2.out.bx.setR (gi o 7)
      have E9 := Lib.hid (E2.out.step (h9.mono fun j q => .inl q) hc9)
      obtain ⟨f, b, c, l, d, tag, sg, -, hx, -⟩ := id E2.out.bx
      have hgn : ¬ g = w.heap.size := fun e => E2.out.not (e ▸ sg)
      have hgn2 : ¬ w.heap.size = g := fun e => hgn e.symm
      have r1 := (box7 hx).1.2.1
      have t1 := (box7 hx).2.1 1
      clear h9 hc9 hx sg tag f b c l d
      obtain ⟨y0, y1, y2, y3, y4, y5, y6, y7⟩ := E2.out.cells
      rw [HKD.out] at y0
      go_wp2_with fail
      generalize w2.setCell ⟨g, 1, none⟩ (.int .i64 (gi o 7)) = w9 at *
      clear y0 y1 y2 y3 y4 y5 y6 y7
      clear r1 t1
      have HEXE : Hid (exeM m o = _) := Lib.hid (by unfold exeM; rw [if_neg (by rw [HKD.out]; decide), if_neg (by rw [HKD.out]; decide), if_neg (by rw [HKD.out]; decide), if_neg (by rw [HKD.out]; decide), if_neg (by rw [HKD.out]; decide), if_neg (by rw [HKD.out]; decide), if_pos HKD.out])
      obtain ⟨y0, y1, y2, y3, y4, y5, y6, y7⟩ := E9.out.cells
      rw [HKD.out] at y0
      go_wp2_with fail
      refine (mk_val (k := 7) (b := false) rfl _).mono ?_
      rintro e wz ⟨rfl, rfl⟩
      go_wp2
      go_ret
      exact ⟨rfl, by rw [HEXE.out]; exact E9.out.fin, E9.out.ch⟩
    · have HKD := Lib.hid hk
      obtain ⟨Kc, hK⟩ : ∃ Kc : Nat, gi o 6 = (Kc : Int) + 1 := ⟨(gi o 6 - 1).toNat, by omega⟩
      have hKl : Kc < m.cr.length := by have := HOK.out.cr; omega
      have hK3 : (Kc : Int) ≤ 3 := by omega
      have hK0 : (0 : Int) ≤ (Kc : Int) := by omega
      have hK4 : (Kc : Int) < 4 := by omega
      have hKw : IntKind.i64.wrap (Kc : Int) = (Kc : Int) := IntWalk.i64_in _ (by omega)
      have HKK := Lib.hid hK
      clear hK c1 c2
      clear hk
      have E2d := Lib.hid (E2.out.below (Below.refl w2.heap.size w2).drew)
      obtain ⟨cf, cb, cl, cdd, cp, cn, ccap, hxc, hcn, -, spc, -, k0, k1, f0, f1⟩ := E2d.out.bx.cars Kc hKl
      subst hcn
      have hcpW := E2d.out.tlt cp spc
      have hcnot : ¬ cp = w.heap.size := fun e => E2d.out.not (e ▸ spc)
      have hcnot2 : ¬ w.heap.size = cp := fun e => hcnot e.symm
      have HXC := Lib.hid hxc
      have HS22 : Hid (w2.drew.cell? ⟨w.heap.size, 6, none⟩ = some (.int .i64 ((Kc : Int) + 1)) ∧ w2.drew.cell? ⟨g, 4, none⟩ = some (.slice (some ⟨cp, 0, none⟩) m.cr.length ccap)) := Lib.hid ⟨by rw [← HKK.out]; exact E2d.out.cells.2.2.2.2.2.2.1, (box7 hxc).1.2.2.2.2.1⟩
      clear hxc spc
      obtain ⟨y0, y1, y2, y3, y4, y5, y6, y7⟩ := E2.out.cells
      rw [HKD.out] at y0
      go_wp2_with fail
      refine wp_region_z (fun w' => w'.cell? ⟨w.heap.size, 6, none⟩ = some (.int .i64 ((Kc : Int) + 1)) ∧ w'.cell? ⟨g, 4, none⟩ = some (.slice (some ⟨cp, 0, none⟩) m.cr.length ccap)) 9 (by kernel_rfl) HS22.out (fun hH0 => ?_)
      generalize w2.drew = wd at *
      refine wpZ_take 0 11 (u := ?_) rfl (by kernel_rfl) (fun _ _ _ h => h) ⟨by rfl, ?_⟩ hH0 ?_
      rotate_left
      · intro w hSw; (try dsimp only at hSw); go_simp; (first | done | with_reducible rfl)
      try simp only [Act.put, sb1, sb2, sb3]
      refine wpZ_take 1 11 (u := ?_) rfl (by kernel_rfl) (fun _ _ _ h => h) ⟨by rfl, ?_⟩ hH0 ?_
      rotate_left
      · intro w hSw; (try dsimp only at hSw); go_simp; (first | done | with_reducible rfl)
      try simp only [Act.put, sb1, sb2, sb3]
      refine wpZ_take 2 11 (u := ?_) rfl (by kernel_rfl) (fun _ _ _ h => h) ⟨by rfl, ?_⟩ hH0 ?_
      rotate_left
      · intro w hSw; (try dsimp only at hSw); go_simp; (first | done | with_reducible rfl)
      try simp only [Act.put, sb1, sb2, sb3]
      refine wpZ_take 3 11 (u := ?_) rfl (by kernel_rfl) (fun _ _ _ h => h) ⟨by rfl, ?_⟩ hH0 ?_
      rotate_left
      · intro w hSw; (try dsimp only at hSw); go_simp; (first | done | with_reducible rfl)
      try simp only [Act.put, sb1, sb2, sb3]
      refine wpZ_take 4 11 (u := ?_) rfl (by kernel_rfl) (fun _ _ _ h => h) ⟨by rfl, ?_⟩ hH0 ?_
      rotate_left
      · intro w hSw; (try dsimp only at hSw); go_simp; (first | done | with_reducible rfl)
      try simp only [Act.put, sb1, sb2, sb3]
      refine wpZ_take 5 11 (u := ?_) rfl (by kernel_rfl) (fun _ _ _ h => h) ⟨by rfl, ?_⟩ hH0 ?_
      rotate_left
      · intro w hSw; (try dsimp only at hSw); go_simp; (first | done | with_reducible rfl)
      try simp only [Act.put, sb1, sb2, sb3]
      refine wpZ_take 6 11 (u := ?_) rfl (by kernel_rfl) (fun _ _ _ h => h) ⟨by rfl, ?_⟩ hH0 ?_
      rotate_left
      · intro w hSw; (try dsimp only at hSw); go_simp; (first | done | with_reducible rfl)
      try simp only [Act.put, sb1, sb2, sb3]
      refine wpZ_take 7 11 (u := ?_) rfl (by kernel_rfl) (fun _ _ _ h => h) ⟨by rfl, ?_⟩ hH0 ?_
      rotate_left
      · intro w hSw; (try dsimp only at hSw); go_simp; (first | done | with_reducible rfl)
      try simp only [Act.put, sb1, sb2, sb3]
      refine wpZ_take 8 11 (u := ?_) rfl (by kernel_rfl) (fun _ _ _ h => h) ⟨by rfl, ?_⟩ hH0 ?_
      rotate_left
      · intro w hSw; (try dsimp only at hSw); go_simp; (first | done | with_reducible rfl)
      try simp only [Act.put, sb1, sb2, sb3]
      refine wpZ_last rfl (by kernel_rfl) (by kernel_rfl) (by rfl) (fun K hK => ?_)
      go_simp
      refine hK.out _ _ ?_
      clear hK K hH0
      obtain ⟨h3, ch3, hx3⟩ := E2d.out.bx.carA HXC.out Kc hKl true
      obtain ⟨h4, ch4, hx4⟩ := OwBox.carX' hKl h3 hx3 (-3)
      have E9 := Lib.hid (E2d.out.step (h4.mono fun j q => .inl q) (ch3.trans ch4))
      have HX4 := Lib.hid hx4
      have HH4 := Lib.hid h4
      clear h3 ch3 hx3 h4 ch4 hx4 k0 k1 f0 f1
      generalize ((wd.setCell ⟨cp, Kc * 2, none⟩ (.bool true)).setCell ⟨cp, Kc * 2 + 1, none⟩ (.int .i64 (-3))) = w9 at *
      clear y0 y1 y2 y3 y4 y5 y6 y7
      obtain ⟨y0, y1, y2, y3, y4, y5, y6, y7⟩ := E9.out.cells
      rw [HKD.out] at y0
      rcases hd with hd | hd
      · have HD := Lib.hid hd
        rw [hd] at y1
        clear hd
        go_wp2_with fail
        refine (mk_val (k := 8) (b := false) rfl _).mono ?_
        rintro e wz ⟨rfl, rfl⟩
        have HEXE : Hid (exeM m o = { m with cr := m.cr.set Kc (true, -3) }) := Lib.hid (by unfold exeM; rw [if_neg (by rw [HKD.out]; decide), if_neg (by rw [HKD.out]; decide), if_neg (by rw [HKD.out]; decide), if_neg (by rw [HKD.out]; decide), if_neg (by rw [HKD.out]; decide), if_neg (by rw [HKD.out]; decide), if_neg (by rw [HKD.out]; decide), if_pos HKD.out]; rw [setC_eqK HKK.out, HD.out, if_neg (by decide)])
        go_wp2
        go_ret
        exact ⟨rfl, by rw [HEXE.out]; exact E9.out.fin, E9.out.ch⟩
      · have HD := Lib.hid hd
        rw [hd] at y1
        clear hd
        have E9d := Lib.hid (E9.out.below (Below.refl w9.heap.size w9).drew)
        have HX4d : Hid (w9.drew.heap[g]? = _) := Lib.hid HX4.out
        have HH4d := E9d.out.bx
        obtain ⟨⟨g0, -, -, -, g4, -, -⟩, -, -⟩ := box7 HX4d.out
        obtain ⟨zf, zb, zl, zd, dp, dn, dcap, hxd, hdn, -, -, -, k0, k1, f0, f1⟩ := E9d.out.bx.cars Kc (by simpa using hKl)
        obtain ⟨rfl, rfl, rfl⟩ : dp = cp ∧ dn = m.cr.length ∧ dcap = ccap := by
          have := (box7 hxd).1.2.2.2.2.1.symm.trans g4
          simp only [Option.some.injEq, Value.slice.injEq, Addr.mk.injEq] at this
          exact ⟨this.1.1, this.2.1, this.2.2⟩
        have HS24 : Hid ((w9.drew.cell? ⟨w.heap.size, 6, none⟩ = some (.int .i64 ((Kc : Int) + 1)) ∧ w9.drew.cell? ⟨g, 4, none⟩ = some (.slice (some ⟨dp, 0, none⟩) m.cr.length dcap)) ∧ w9.drew.cell? ⟨g, 0, none⟩ = some (.int .i64 m.wd)) := Lib.hid ⟨⟨by rw [← HKK.out]; exact E9d.out.cells.2.2.2.2.2.2.1, g4⟩, g0⟩
        have hwx : IntKind.i64.wrap (m.wd + 3) = m.wd + 3 := IntWalk.i64_in _ (by omega)
        obtain ⟨h5, ch5, -⟩ := OwBox.carX' hKl HH4d HX4d.out (m.wd + 3)
        have E5 := Lib.hid (E9d.out.step (h5.mono fun j q => .inl q) ch5)
        clear h5 ch5 hxd hdn HH4d g0 g4
        go_wp2_with fail
        refine wp_region_z (fun w' => (w'.cell? ⟨w.heap.size, 6, none⟩ = some (.int .i64 ((Kc : Int) + 1)) ∧ w'.cell? ⟨g, 4, none⟩ = some (.slice (some ⟨dp, 0, none⟩) m.cr.length dcap)) ∧ w'.cell? ⟨g, 0, none⟩ = some (.int .i64 m.wd)) 14 (by kernel_rfl) HS24.out (fun hH0 => ?_)
        generalize w9.drew = we at *
        refine wpZ_take 0 16 (u := ?_) rfl (by kernel_rfl) (fun _ _ _ h => h) ⟨by rfl, ?_⟩ hH0 ?_
        rotate_left
        · intro w hSw; (try dsimp only at hSw); go_simp; (first | done | with_reducible rfl)
        try simp only [Act.put, sb1, sb2, sb3]
        refine wpZ_take 1 16 (u := ?_) rfl (by kernel_rfl) (fun _ _ _ h => h) ⟨by rfl, ?_⟩ hH0 ?_
        rotate_left
        · intro w hSw; (try dsimp only at hSw); go_simp; (first | done | with_reducible rfl)
        try simp only [Act.put, sb1, sb2, sb3]
        refine wpZ_take 2 16 (u := ?_) rfl (by kernel_rfl) (fun _ _ _ h => h) ⟨by rfl, ?_⟩ hH0 ?_
        rotate_left
        · intro w hSw; (try dsimp only at hSw); go_simp; (first | done | with_reducible rfl)
        try simp only [Act.put, sb1, sb2, sb3]
        refine wpZ_take 3 16 (u := ?_) rfl (by kernel_rfl) (fun _ _ _ h => h) ⟨by rfl, ?_⟩ hH0 ?_
        rotate_left
        · intro w hSw; (try dsimp only at hSw); go_simp; (first | done | with_reducible rfl)
        try simp only [Act.put, sb1, sb2, sb3]
        refine wpZ_take 4 16 (u := ?_) rfl (by kernel_rfl) (fun _ _ _ h => h) ⟨by rfl, ?_⟩ hH0 ?_
        rotate_left
        · intro w hSw; (try dsimp only at hSw); go_simp; (first | done | with_reducible rfl)
        try simp only [Act.put, sb1, sb2, sb3]
        refine wpZ_take 5 16 (u := ?_) rfl (by kernel_rfl) (fun _ _ _ h => h) ⟨by rfl, ?_⟩ hH0 ?_
        rotate_left
        · intro w hSw; (try dsimp only at hSw); go_simp; (first | done | with_reducible rfl)
        try simp only [Act.put, sb1, sb2, sb3]
        refine wpZ_take 6 16 (u := ?_) rfl (by kernel_rfl) (fun _ _ _ h => h) ⟨by rfl, ?_⟩ hH0 ?_
        rotate_left
        · intro w hSw; (try dsimp only at hSw); go_simp; (first | done | with_reducible rfl)
        try simp only [Act.put, sb1, sb2, sb3]
        refine wpZ_take 7 16 (u := ?_) rfl (by kernel_rfl) (fun _ _ _ h => h) ⟨by rfl, ?_⟩ hH0 ?_
        rotate_left
        · intro w hSw; (try dsimp only at hSw); go_simp; (first | done | with_reducible rfl)
        try simp only [Act.put, sb1, sb2, sb3]
        refine wpZ_take 8 16 (u := ?_) rfl (by kernel_rfl) (fun _ _ _ h => h) ⟨by rfl, ?_⟩ hH0 ?_
        rotate_left
        · intro w hSw; (try dsimp only at hSw); go_simp; (first | done | with_reducible rfl)
        try simp only [Act.put, sb1, sb2, sb3]
        refine wpZ_take 9 16 (u := ?_) rfl (by kernel_rfl) (fun _ _ _ h => h) ⟨by rfl, ?_⟩ hH0 ?_
        rotate_left
        · intro w hSw; (try dsimp only at hSw); go_simp; (first | done | with_reducible rfl)
        try simp only [Act.put, sb1, sb2, sb3]
        refine wpZ_take 10 16 (u := ?_) rfl (by kernel_rfl) (fun _ _ _ h => h) ⟨by rfl, ?_⟩ hH0 ?_
        rotate_left
        · intro w hSw; (try dsimp only at hSw); go_simp; (first | done | with_reducible rfl)
        try simp only [Act.put, sb1, sb2, sb3]
        refine wpZ_take 11 16 (u := ?_) rfl (by kernel_rfl) (fun _ _ _ h => h) ⟨by rfl, ?_⟩ hH0 ?_
        rotate_left
        · intro w hSw; (try dsimp only at hSw); go_simp; (first | done | with_reducible rfl)
        try simp only [Act.put, sb1, sb2, sb3]
        refine wpZ_take 12 16 (u := ?_) rfl (by kernel_rfl) (fun _ _ _ h => h) ⟨by rfl, ?_⟩ hH0 ?_
        rotate_left
        · intro w hSw; (try dsimp only at hSw); go_simp; (first | done | with_reducible rfl)
        try simp only [Act.put, sb1, sb2, sb3]
        refine wpZ_take 13 16 (u := ?_) rfl (by kernel_rfl) (fun _ _ _ h => h) ⟨by rfl, ?_⟩ hH0 ?_
        rotate_left
        · intro w hSw; (try dsimp only at hSw); go_simp; (first | done | with_reducible rfl)
        try simp only [Act.put, sb1, sb2, sb3]
        refine wpZ_last rfl (by kernel_rfl) (by kernel_rfl) (by rfl) (fun K hK => ?_)
        go_simp
        refine hK.out _ _ ?_
        clear hK K hH0
        generalize we.setCell ⟨dp, Kc * 2 + 1, none⟩ (.int .i64 (m.wd + 3)) = w11 at *
        clear y0 y1 y2 y3 y4 y5 y6 y7
        clear k0 k1 f0 f1
        have HEXE : Hid (exeM m o = { m with cr := m.cr.set Kc (true, m.wd + 3) }) := Lib.hid (by unfold exeM; rw [if_neg (by rw [HKD.out]; decide), if_neg (by rw [HKD.out]; decide), if_neg (by rw [HKD.out]; decide), if_neg (by rw [HKD.out]; decide), if_neg (by rw [HKD.out]; decide), if_neg (by rw [HKD.out]; decide), if_neg (by rw [HKD.out]; decide), if_pos HKD.out]; rw [setC_eqK HKK.out, HD.out, if_pos rfl])
        obtain ⟨y0, y1, y2, y3, y4, y5, y6, y7⟩ := E5.out.cells
        rw [HKD.out] at y0
        go_wp2_with fail
        refine (mk_val (k := 8) (b := false) rfl _).mono ?_
        rintro e wz ⟨rfl, rfl⟩
        go_wp2
        go_ret
        exact ⟨rfl, by rw [HEXE.out]; exact E5.out.fin, E5.out.ch⟩
    · have HKD := Lib.hid hk
      obtain ⟨Kc, hK⟩ : ∃ Kc : Nat, gi o 6 = (Kc : Int) + 1 := ⟨(gi o 6 - 1).toNat, by omega⟩
      have hKl : Kc < m.cr.length := by have := HOK.out.cr; omega
      have hK3 : (Kc : Int) ≤ 3 := by omega
      have hK0 : (0 : Int) ≤ (Kc : Int) := by omega
      have hK4 : (Kc : Int) < 4 := by omega
      have hKw : IntKind.i64.wrap (Kc : Int) = (Kc : Int) := IntWalk.i64_in _ (by omega)
      have HKK := Lib.hid hK
      clear hK c1 c2
      clear hk
      have E2d := Lib.hid (E2.out.below (Below.refl w2.heap.size w2).drew)
      obtain ⟨cf, cb, cl, cdd, cp, cn, ccap, hxc, hcn, -, spc, -, k0, k1, f0, f1⟩ := E2d.out.bx.cars Kc hKl
      subst hcn
      have hcpW := E2d.out.tlt cp spc
      have hcnot : ¬ cp = w.heap.size := fun e => E2d.out.not (e ▸ spc)
      have hcnot2 : ¬ w.heap.size = cp := fun e => hcnot e.symm
      have HXC := Lib.hid hxc
      have HS22 : Hid (w2.drew.cell? ⟨w.heap.size, 6, none⟩ = some (.int .i64 ((Kc : Int) + 1)) ∧ w2.drew.cell? ⟨g, 4, none⟩ = some (.slice (some ⟨cp, 0, none⟩) m.cr.length ccap)) := Lib.hid ⟨by rw [← HKK.out]; exact E2d.out.cells.2.2.2.2.2.2.1, (box7 hxc).1.2.2.2.2.1⟩
      clear hxc spc
      obtain ⟨y0, y1, y2, y3, y4, y5, y6, y7⟩ := E2.out.cells
      rw [HKD.out] at y0
      go_wp2_with fail
      refine wp_region_z (fun w' => w'.cell? ⟨w.heap.size, 6, none⟩ = some (.int .i64 ((Kc : Int) + 1)) ∧ w'.cell? ⟨g, 4, none⟩ = some (.slice (some ⟨cp, 0, none⟩) m.cr.length ccap)) 9 (by kernel_rfl) HS22.out (fun hH0 => ?_)
      generalize w2.drew = wd at *
      refine wpZ_take 0 11 (u := ?_) rfl (by kernel_rfl) (fun _ _ _ h => h) ⟨by rfl, ?_⟩ hH0 ?_
      rotate_left
      · intro w hSw; (try dsimp only at hSw); go_simp; (first | done | with_reducible rfl)
      try simp only [Act.put, sb1, sb2, sb3]
      refine wpZ_take 1 11 (u := ?_) rfl (by kernel_rfl) (fun _ _ _ h => h) ⟨by rfl, ?_⟩ hH0 ?_
      rotate_left
      · intro w hSw; (try dsimp only at hSw); go_simp; (first | done | with_reducible rfl)
      try simp only [Act.put, sb1, sb2, sb3]
      refine wpZ_take 2 11 (u := ?_) rfl (by kernel_rfl) (fun _ _ _ h => h) ⟨by rfl, ?_⟩ hH0 ?_
      rotate_left
      · intro w hSw; (try dsimp only at hSw); go_simp; (first | done | with_reducible rfl)
      try simp only [Act.put, sb1, sb2, sb3]
      refine wpZ_take 3 11 (u := ?_) rfl (by kernel_rfl) (fun _ _ _ h => h) ⟨by rfl, ?_⟩ hH0 ?_
      rotate_left
      · intro w hSw; (try dsimp only at hSw); go_simp; (first | done | with_reducible rfl)
      try simp only [Act.put, sb1, sb2, sb3]
      refine wpZ_take 4 11 (u := ?_) rfl (by kernel_rfl) (fun _ _ _ h => h) ⟨by rfl, ?_⟩ hH0 ?_
      rotate_left
      · intro w hSw; (try dsimp only at hSw); go_simp; (first | done | with_reducible rfl)
      try simp only [Act.put, sb1, sb2, sb3]
      refine wpZ_take 5 11 (u := ?_) rfl (by kernel_rfl) (fun _ _ _ h => h) ⟨by rfl, ?_⟩ hH0 ?_
      rotate_left
      · intro w hSw; (try dsimp only at hSw); go_simp; (first | done | with_reducible rfl)
      try simp only [Act.put, sb1, sb2, sb3]
      refine wpZ_take 6 11 (u := ?_) rfl (by kernel_rfl) (fun _ _ _ h => h) ⟨by rfl, ?_⟩ hH0 ?_
      rotate_left
      · intro w hSw; (try dsimp only at hSw); go_simp; (first | done | with_reducible rfl)
      try simp only [Act.put, sb1, sb2, sb3]
      refine wpZ_take 7 11 (u := ?_) rfl (by kernel_rfl) (fun _ _ _ h => h) ⟨by rfl, ?_⟩ hH0 ?_
      rotate_left
      · intro w hSw; (try dsimp only at hSw); go_simp; (first | done | with_reducible rfl)
      try simp only [Act.put, sb1, sb2, sb3]
      refine wpZ_take 8 11 (u := ?_) rfl (by kernel_rfl) (fun _ _ _ h => h) ⟨by rfl, ?_⟩ hH0 ?_
      rotate_left
      · intro w hSw; (try dsimp only at hSw); go_simp; (first | done | with_reducible rfl)
      try simp only [Act.put, sb1, sb2, sb3]
      refine wpZ_last rfl (by kernel_rfl) (by kernel_rfl) (by rfl) (fun K hK => ?_)
      go_simp
      refine hK.out _ _ ?_
      clear hK K hH0
      obtain ⟨h3, ch3, hx3⟩ := E2d.out.bx.carA HXC.out Kc hKl false
      obtain ⟨h4, ch4, hx4⟩ := OwBox.carX' hKl h3 hx3 (0)
      have E9 := Lib.hid (E2d.out.step (h4.mono fun j q => .inl q) (ch3.trans ch4))
      have HX4 := Lib.hid hx4
      have HH4 := Lib.hid h4
      clear h3 ch3 hx3 h4 ch4 hx4 k0 k1 f0 f1
      generalize ((wd.setCell ⟨cp, Kc * 2, none⟩ (.bool false)).setCell ⟨cp, Kc * 2 + 1, none⟩ (.int .i64 (0))) = w9 at *
      clear y0 y1 y2 y3 y4 y5 y6 y7
      have HEXE : Hid (exeM m o = { m with cr := m.cr.set Kc (false, 0) }) := Lib.hid (by unfold exeM; rw [if_neg (by rw [HKD.out]; decide), if_neg (by rw [HKD.out]; decide), if_neg (by rw [HKD.out]; decide), if_neg (by rw [HKD.out]; decide), if_neg (by rw [HKD.out]; decide), if_neg (by rw [HKD.out]; decide), if_neg (by rw [HKD.out]; decide), if_neg (by rw [HKD.out]; decide)]; rw [setC_eqK HKK.out])
      obtain ⟨y0, y1, y2, y3, y4, y5, y6, y7⟩ := E9.out.cells
      rw [HKD.out] at y0
      go_wp2_with fail
      refine (mk_val (k := 9) (b := false) rfl _).mono ?_
      rintro e wz ⟨rfl, rfl⟩
      go_wp2
      go_ret
      exact ⟨rfl, by rw [HEXE.out]; exact E9.out.fin, E9.out.ch⟩
  · have HC := Lib.hid hc
    rw [if_neg hc]
    clear hat hc
    generalize hcd : opC m o = cd at *
    clear hcd
    have hcn : ¬ cd = 0 := HC.out
    go_enter Tryz.func66, Tryz.ntmps66
    go_wp2_with fail
    refine (HCODE.out _ (al1 w _)).mono ?_
    rintro e w2 ⟨rfl, hq⟩
    have HF := Lib.hid (HE1.out.below hq)
    clear hq HE1 HCODE
    go_wp2
    go_ret
    exact ⟨rfl, HF.out.fin, HF.out.ch⟩
end Go.Proofs.YtgmppfhokfifgaaGreatDoor
