/-
  Contract: the reference's l07Make (on a machine in a box).
-/
import Derived.Test.YtgmppfhokfifgaaGreatDoorGma
import Derived.Test.YtgmppfhokfifgaaGreatDoorSlib
import Derived.Test.YtgmppfhokfifgaaGreatDoorGmc
import Derived.IntWalk
import Derived.Test.YtgmppfhokfifgaaGreatDoorGpo
import Derived.WalkSmall
import Derived.Test.YtgmppfhokfifgaaGreatDoorSt
namespace Go.Proofs.YtgmppfhokfifgaaGreatDoor
set_option maxRecDepth 10000
open Go.RowKit

/-- The new blocks behind a change, and behind those again. -/
theorem now_now {S : Nat → Prop} {w a b : World} (h1 : w.heap.size ≤ a.heap.size) (h2 : a.heap.size ≤ b.heap.size) : ∀ k, Now (Now S w a) a b k → Now S w b k := fun k q => by
  rcases q with (q | q) | q
  · exact .inl q
  · exact .inr ⟨q.1, by omega⟩
  · exact .inr ⟨by omega, q.2⟩
set_option maxRecDepth 100000 in
set_option maxHeartbeats 6400000 in
theorem l07Make_any {w : World} {S : Nat → Prop} {g po oo : Nat} {m : Mac} {o ps : List Int} {pv : Value} {B : Nat} (h : OwBox w S g m) (hS : ∀ j, S j → j < w.heap.size) (hop : OpL w po oo o) (hpS : ¬ S po) (hps : Sl w B pv ps) (hB : B ≤ w.heap.size) (hpl : ps.length ≤ 100) (hlp : m.lp.length ≤ 300) :
    Calls Tryz.prog 146 #[.pointer (some ⟨g, 0, none⟩), .pointer (some ⟨po, oo, none⟩), pv] w fun e w' => e = .returned (.int .i64 m.n) ∧ OwBox w' (Now S w w') g (m.made o ps) ∧ ChgS S w w' := by
  obtain ⟨f, b, c, l, d, vs, hx, sg, hl, hlo, put⟩ := h.push hS
  have hgl := heap_lt hx
  have hpo := hop.lt
  obtain ⟨o0, o1, o2, o3, -, -, o6, -⟩ := hop
  have HX := Lib.hid hx
  have HL := Lib.hid hl
  have HPUT := Lib.hid put
  have HSG := Lib.hid sg
  have HPS := Lib.hid hps
  have HLO := Lib.hid hlo
  obtain ⟨⟨-, -, -, -, -, g5, -⟩, -, -⟩ := box7 hx
  obtain ⟨Ap, cp, rfl, -⟩ := id hps
  have hlf : ∃ Al cl, l = .slice Al m.lp.length cl := by
    rcases hl.form with ⟨rfl, h0, -⟩ | ⟨q, cap, rfl, -⟩
    · exact ⟨none, 0, by rw [h0]⟩
    · exact ⟨_, cap, rfl⟩
  obtain ⟨Al, cl, rfl⟩ := hlf
  have HK := Lib.hid (fun (w' : World) (q1 : w'.heap[po]? = w.heap[po]?) (q2 : w'.heap[g]? = w.heap[g]?) => show w'.cell? ⟨po, oo, none⟩ = some (.int .i64 (gi o 0)) ∧ w'.cell? ⟨po, oo + 4 + 2, none⟩ = some (.int .i64 (gi o 6)) ∧ w'.cell? ⟨po, oo + 6, none⟩ = some (.int .i64 (gi o 6)) ∧ w'.cell? ⟨po, oo + 2, none⟩ = some (.int .i64 (gi o 2)) ∧ w'.cell? ⟨po, oo + 2 + 1, none⟩ = some (.int .i64 (gi o 3)) ∧ w'.cell? ⟨po, oo + 1, none⟩ = some (.int .i64 (gi o 1)) ∧ w'.cell? ⟨g, 5, none⟩ = some (.slice Al m.lp.length cl) from
    ⟨by simp only [World.cell?, q1]; exact o0, by simp only [World.cell?, q1]; exact o6, by simp only [World.cell?, q1]; exact o6, by simp only [World.cell?, q1]; exact o2, by simp only [World.cell?, q1]; exact o3, by simp only [World.cell?, q1]; exact o1, by simp only [World.cell?, q2]; exact g5⟩)
  have HS := Lib.hid hS
  have hgp : g ≠ po := fun e => hpS (e ▸ sg)
  clear h hS hx hl put sg hps hlo
  go_enter Tryz.func146, Tryz.ntmps146
  go_wp2_with fail
  refine wp_region_z (fun w' => w'.cell? ⟨po, oo, none⟩ = some (.int .i64 (gi o 0)) ∧ w'.cell? ⟨po, oo + 4 + 2, none⟩ = some (.int .i64 (gi o 6)) ∧ w'.cell? ⟨po, oo + 6, none⟩ = some (.int .i64 (gi o 6)) ∧ w'.cell? ⟨po, oo + 2, none⟩ = some (.int .i64 (gi o 2)) ∧ w'.cell? ⟨po, oo + 2 + 1, none⟩ = some (.int .i64 (gi o 3)) ∧ w'.cell? ⟨po, oo + 1, none⟩ = some (.int .i64 (gi o 1)) ∧ w'.cell? ⟨g, 5, none⟩ = some (.slice Al m.lp.length cl)) 34 (by kernel_rfl) (HK.out _ rfl rfl) (fun hH0 => ?_)
  refine wpZ_take 0 36 (u := ?_) rfl (by kernel_rfl) (fun _ _ _ h => h) ⟨by rfl, ?_⟩ hH0 ?_
  rotate_left
  · intro w hSw; (try dsimp only at hSw); go_simp; (first | done | with_reducible rfl)
  try simp only [Act.put, sb1, sb2, sb3]
  refine wpZ_take 1 36 (u := ?_) rfl (by kernel_rfl) (fun _ _ _ h => h) ⟨by rfl, ?_⟩ hH0 ?_
  rotate_left
  · intro w hSw; (try dsimp only at hSw); go_simp; (first | done | with_reducible rfl)
  try simp only [Act.put, sb1, sb2, sb3]
  refine wpZ_take 2 36 (u := ?_) rfl (by kernel_rfl) (fun _ _ _ h => h) ⟨by rfl, ?_⟩ hH0 ?_
  rotate_left
  · intro w hSw; (try dsimp only at hSw); go_simp; (first | done | with_reducible rfl)
  try simp only [Act.put, sb1, sb2, sb3]
  refine wpZ_take 3 36 (u := ?_) rfl (by kernel_rfl) (fun _ _ _ h => h) ⟨by rfl, ?_⟩ hH0 ?_
  rotate_left
  · intro w hSw; (try dsimp only at hSw); go_simp; (first | done | with_reducible rfl)
  try simp only [Act.put, sb1, sb2, sb3]
  refine wpZ_take 4 36 (u := ?_) rfl (by kernel_rfl) (fun _ _ _ h => h) ⟨by rfl, ?_⟩ hH0 ?_
  rotate_left
  · intro w hSw; (try dsimp only at hSw); go_simp; (first | done | with_reducible rfl)
  try simp only [Act.put, sb1, sb2, sb3]
  refine wpZ_take 5 36 (u := ?_) rfl (by kernel_rfl) (fun _ _ _ h => h) ⟨by rfl, ?_⟩ hH0 ?_
  rotate_left
  · intro w hSw; (try dsimp only at hSw); go_simp; (first | done | with_reducible rfl)
  try simp only [Act.put, sb1, sb2, sb3]
  refine wpZ_take 6 36 (u := ?_) rfl (by kernel_rfl) (fun _ _ _ h => h) ⟨by rfl, ?_⟩ hH0 ?_
  rotate_left
  · intro w hSw; (try dsimp only at hSw); go_simp; (first | done | with_reducible rfl)
  try simp only [Act.put, sb1, sb2, sb3]
  refine wpZ_take 7 36 (u := ?_) rfl (by kernel_rfl) (fun _ _ _ h => h) ⟨by rfl, ?_⟩ hH0 ?_
  rotate_left
  · intro w hSw; (try dsimp only at hSw); go_simp; (first | done | with_reducible rfl)
  try simp only [Act.put, sb1, sb2, sb3]
  refine wpZ_take 8 36 (u := ?_) rfl (by kernel_rfl) (fun _ _ _ h => h) ⟨by rfl, ?_⟩ hH0 ?_
  rotate_left
  · intro w hSw; (try dsimp only at hSw); go_simp; (first | done | with_reducible rfl)
  try simp only [Act.put, sb1, sb2, sb3]
  refine wpZ_take 9 36 (u := ?_) rfl (by kernel_rfl) (fun _ _ _ h => h) ⟨by rfl, ?_⟩ hH0 ?_
  rotate_left
  · intro w hSw; (try dsimp only at hSw); go_simp; (first | done | with_reducible rfl)
  try simp only [Act.put, sb1, sb2, sb3]
  refine wpZ_take 10 36 (u := ?_) rfl (by kernel_rfl) (fun _ _ _ h => h) ⟨by rfl, ?_⟩ hH0 ?_
  rotate_left
  · intro w hSw; (try dsimp only at hSw); go_simp; (first | done | with_reducible rfl)
  try simp only [Act.put, sb1, sb2, sb3]
  refine wpZ_take 11 36 (u := ?_) rfl (by kernel_rfl) (fun _ _ _ h => h) ⟨by rfl, ?_⟩ hH0 ?_
  rotate_left
  · intro w hSw; (try dsimp only at hSw); go_simp; (first | done | with_reducible rfl)
  try simp only [Act.put, sb1, sb2, sb3]
  refine wpZ_take 12 36 (u := ?_) rfl (by kernel_rfl) (fun _ _ _ h => h) ⟨by rfl, ?_⟩ hH0 ?_
  rotate_left
  · intro w hSw; (try dsimp only at hSw); go_simp; (first | done | with_reducible rfl)
  try simp only [Act.put, sb1, sb2, sb3]
  refine wpZ_take 13 36 (u := ?_) rfl (by kernel_rfl) (fun _ _ _ h => h) ⟨by rfl, ?_⟩ hH0 ?_
  rotate_left
  · intro w hSw; (try dsimp only at hSw); go_simp; (first | done | with_reducible rfl)
  try simp only [Act.put, sb1, sb2, sb3]
  refine wpZ_take 14 36 (u := ?_) rfl (by kernel_rfl) (fun _ _ _ h => h) ⟨by rfl, ?_⟩ hH0 ?_
  rotate_left
  · intro w hSw; (try dsimp only at hSw); go_simp; (first | done | with_reducible rfl)
  try simp only [Act.put, sb1, sb2, sb3]
  refine wpZ_take 15 36 (u := ?_) rfl (by kernel_rfl) (fun _ _ _ h => h) ⟨by rfl, ?_⟩ hH0 ?_
  rotate_left
  · intro w hSw; (try dsimp only at hSw); go_simp; (first | done | with_reducible rfl)
  try simp only [Act.put, sb1, sb2, sb3]
  refine wpZ_take 16 36 (u := ?_) rfl (by kernel_rfl) (fun _ _ _ h => h) ⟨by rfl, ?_⟩ hH0 ?_
  rotate_left
  · intro w hSw; (try dsimp only at hSw); go_simp; (first | done | with_reducible rfl)
  try simp only [Act.put, sb1, sb2, sb3]
  refine wpZ_take 17 36 (u := ?_) rfl (by kernel_rfl) (fun _ _ _ h => h) ⟨by rfl, ?_⟩ hH0 ?_
  rotate_left
  · intro w hSw; (try dsimp only at hSw); go_simp; (first | done | with_reducible rfl)
  try simp only [Act.put, sb1, sb2, sb3]
  refine wpZ_take 18 36 (u := ?_) rfl (by kernel_rfl) (fun _ _ _ h => h) ⟨by rfl, ?_⟩ hH0 ?_
  rotate_left
  · intro w hSw; (try dsimp only at hSw); go_simp; (first | done | with_reducible rfl)
  try simp only [Act.put, sb1, sb2, sb3]
  refine wpZ_take 19 36 (u := ?_) rfl (by kernel_rfl) (fun _ _ _ h => h) ⟨by rfl, ?_⟩ hH0 ?_
  rotate_left
  · intro w hSw; (try dsimp only at hSw); go_simp; (first | done | with_reducible rfl)
  try simp only [Act.put, sb1, sb2, sb3]
  refine wpZ_take 20 36 (u := ?_) rfl (by kernel_rfl) (fun _ _ _ h => h) ⟨by rfl, ?_⟩ hH0 ?_
  rotate_left
  · intro w hSw; (try dsimp only at hSw); go_simp; (first | done | with_reducible rfl)
  try simp only [Act.put, sb1, sb2, sb3]
  refine wpZ_take 21 36 (u := ?_) rfl (by kernel_rfl) (fun _ _ _ h => h) ⟨by rfl, ?_⟩ hH0 ?_
  rotate_left
  · intro w hSw; (try dsimp only at hSw); go_simp; (first | done | with_reducible rfl)
  try simp only [Act.put, sb1, sb2, sb3]
  refine wpZ_take 22 36 (u := ?_) rfl (by kernel_rfl) (fun _ _ _ h => h) ⟨by rfl, ?_⟩ hH0 ?_
  rotate_left
  · intro w hSw; (try dsimp only at hSw); go_simp; (first | done | with_reducible rfl)
  try simp only [Act.put, sb1, sb2, sb3]
  refine wpZ_take 23 36 (u := ?_) rfl (by kernel_rfl) (fun _ _ _ h => h) ⟨by rfl, ?_⟩ hH0 ?_
  rotate_left
  · intro w hSw; (try dsimp only at hSw); go_simp; (first | done | with_reducible rfl)
  try simp only [Act.put, sb1, sb2, sb3]
  refine wpZ_take 24 36 (u := ?_) rfl (by kernel_rfl) (fun _ _ _ h => h) ⟨by rfl, ?_⟩ hH0 ?_
  rotate_left
  · intro w hSw; (try dsimp only at hSw); go_simp; (first | done | with_reducible rfl)
  try simp only [Act.put, sb1, sb2, sb3]
  refine wpZ_take 25 36 (u := ?_) rfl (by kernel_rfl) (fun _ _ _ h => h) ⟨by rfl, ?_⟩ hH0 ?_
  rotate_left
  · intro w hSw; (try dsimp only at hSw); go_simp; (first | done | with_reducible rfl)
  try simp only [Act.put, sb1, sb2, sb3]
  refine wpZ_take 26 36 (u := ?_) rfl (by kernel_rfl) (fun _ _ _ h => h) ⟨by rfl, ?_⟩ hH0 ?_
  rotate_left
  · intro w hSw; (try dsimp only at hSw); go_simp; (first | done | with_reducible rfl)
  try simp only [Act.put, sb1, sb2, sb3]
  refine wpZ_take 27 36 (u := ?_) rfl (by kernel_rfl) (fun _ _ _ h => h) ⟨by rfl, ?_⟩ hH0 ?_
  rotate_left
  · intro w hSw; (try dsimp only at hSw); go_simp; (first | done | with_reducible rfl)
  try simp only [Act.put, sb1, sb2, sb3]
  refine wpZ_only 28 rfl (by kernel_rfl) (by rfl) (fun K hK => ?_)
  go_simp
  go_at_call 116
  refine (l00Own_any _ ps B _ (HPS.out.below (Below.refl _ _).drew hB) (by exact hB) (by omega)).mono ?_
  rintro e w3 ⟨r3, rfl, ho3, hb3⟩
  obtain ⟨A3, c3, rfl, -⟩ := id (ho3.sl (Nat.le_refl _))
  have hr3 : Below w.heap.size w w3 := Below.trans (Below.refl _ _).drew (hb3.mono (Nat.le_refl _))
  have hr4 : Below w.heap.size w (w3.alloc (.cells #[.int .i64 (gi o 0), .int .i64 (gi o 6), .int .i64 (gi o 2), .int .i64 (gi o 3), .int .i64 (gi o 1), .slice A3 ps.length c3] 139)) := hr3.trans ((al1 w3 _).mono hr3.size)
  go_wp2_with fail
  refine hK.out _ _ ?_ (fun hH1 => ?_)
  · exact HK.out _ (hr3.block po hpo) (hr3.block g hgl)
  clear hK K hH0
  try simp only [Act.put, sb1, sb2, sb3]
  refine wpZ_take 29 36 (u := ?_) rfl (by kernel_rfl) (fun _ _ _ h => h) ⟨by rfl, ?_⟩ hH1 ?_
  rotate_left
  · intro w hSw; (try dsimp only at hSw); go_simp; (first | done | with_reducible rfl)
  try simp only [Act.put, sb1, sb2, sb3]
  refine wpZ_only 30 rfl (by kernel_rfl) (by rfl) (fun K hK => ?_)
  go_simp
  refine hK.out _ _ ?_ (fun hH2 => ?_)
  · exact HK.out _ (hr4.block po hpo) (hr4.block g hgl)
  clear hK K hH1
  try simp only [Act.put, sb1, sb2, sb3]
  refine wpZ_only 31 rfl (by kernel_rfl) (by rfl) (fun K hK => ?_)
  refine op_append_elem Tryz.underlying73 info_info rfl (by decide) (by decide) _ _ rfl _ 0 w3.heap.size w3.heap.size (.slice Al m.lp.length cl) m.lp.length vs [.int .i64 (gi o 0), .int .i64 (gi o 6), .int .i64 (gi o 2), .int .i64 (gi o 3), .int .i64 (gi o 1), .slice A3 ps.length c3] 139 rfl rfl (alloc_at_ w3 _) ?_ (Nat.zero_le _) (by omega) rfl (by simp [Value.oneCell']) ?_
  · exact ((HL.out.below hr3 (Nat.le_refl _)).al (by have := hr3.size; omega) _).mono (Nat.le_refl _) hr3.size
  intro v4 w4 hv4 hg4 hl4
  have hp4 := (hg4.block po (by simp; have := hr3.size; omega) (fun e => hpS (HLO.out po e.symm).1)).trans (hr4.block po hpo)
  have hg5 := (hg4.block g (by simp; have := hr3.size; omega) (fun e => (HLO.out g e.symm).2 rfl)).trans (hr4.block g hgl)
  refine hK.out _ _ ?_ (fun hH3 => ?_)
  · exact HK.out _ hp4 hg5
  clear hK K hH2
  try simp only [Act.put, sb1, sb2, sb3]
  refine wpZ_take 32 36 (u := ?_) rfl (by kernel_rfl) (fun _ _ _ h => h) ⟨by rfl, ?_⟩ hH3 ?_
  rotate_left
  · intro w hSw; (try dsimp only at hSw); go_simp; (first | done | with_reducible rfl)
  try simp only [Act.put, sb1, sb2, sb3]
  refine wpZ_take 33 36 (u := ?_) rfl (by kernel_rfl) (fun _ _ _ h => h) ⟨by rfl, ?_⟩ hH3 ?_
  rotate_left
  · intro w hSw; (try dsimp only at hSw); go_simp; (first | done | with_reducible rfl)
  try simp only [Act.put, sb1, sb2, sb3]
  refine wpZ_last rfl (by kernel_rfl) (by kernel_rfl) (by rfl) (fun K hK => ?_)
  go_simp
  have hf4 : ∃ A4 c4, v4 = .slice A4 (m.lp.length + 1) c4 := by
    rcases hv4.form with ⟨-, h0, -⟩ | ⟨q, cap, e, -⟩
    · omega
    · exact ⟨_, cap, e⟩
  obtain ⟨A4, c4, rfl⟩ := hf4
  obtain ⟨P1, P2⟩ := HPUT.out (.slice A3 ps.length c3) ps (gi o 0) (gi o 6) (gi o 2) (gi o 3) (gi o 1) (fun k => w.drew.heap.size ≤ k ∧ k < w3.heap.size) _ _ w4 hr4 ((rw_ _ _).keep (rw_of_ow ho3) fun k hk => (al1 w3 _).block k hk.2) (fun j q => by simp; omega) (fun j q1 q2 => absurd (HS.out j q2) (by have : w.heap.size ≤ j := q1.1; omega)) hg4 hl4 hv4.1
  have hx4 := hg5.trans HX.out
  obtain ⟨⟨-, -, -, -, -, y5, -⟩, yf, -⟩ := box7 hx4
  have yf5 := yf 5
  go_simp
  refine hK.out _ _ ?_
  clear hK K hH3
  generalize hW5 : w4.setCell ⟨g, 5, none⟩ (.slice A4 (m.lp.length + 1) c4) = w5 at P1 P2 ⊢
  have k5 : w5.cell? ⟨g, 5, none⟩ = some (.slice A4 (m.lp.length + 1) c4) := by
    have x5 : w5.heap[g]? = some (.cells #[.int .i64 m.wd, .int .i64 m.rk, f, b, c, .slice A4 (m.lp.length + 1) c4, d] 75) := by rw [← hW5]; exact heap_setCell_at (k := 5) _ hx4
    exact (box7 x5).1.2.2.2.2.2.1
  have z5 : w5.heap.size = w4.heap.size := by rw [← hW5]; simp [World.setCell]
  have P1' : OwBox w5 (Now S w w5) g (m.made o ps) := by
    refine P1.mono fun j q => ?_
    have hs4 := hg4.size
    have hs3 := hr3.size
    simp at hs4
    rcases q with q | ⟨q1, q2⟩ | ⟨q1, q2⟩
    · exact .inl q
    · exact .inr ⟨q1, by omega⟩
    · exact .inr ⟨by simp at q1; omega, by omega⟩
  have HP := Lib.hid P1'
  have hwr : IntKind.i64.wrap ((↑(m.lp.length + 1) : Int) - 1) = (m.lp.length : Int) := by rw [IntWalk.i64_in _ (by omega)]; omega
  clear P1 P1' hv4 hg4 hl4 hW5 hx4 y5 yf yf5
  go_wp2_with fail
  go_ret
  exact ⟨by simp [Mac.n], HP.out, P2⟩
end Go.Proofs.YtgmppfhokfifgaaGreatDoor
/-
  Contracts: the reference's l07On, l07Set by needle, l07Move (on a machine in a box). The drawn regions are printed by gen_msd.py.
-/
namespace Go.Proofs.YtgmppfhokfifgaaGreatDoor
set_option maxRecDepth 10000
open Go.RowKit

theorem op_append_list {o : Oper} {a : Act} {K : Act → World → Prop} {Q : Exit → Act → World → Prop} (hgd : o.guard = none) (s x : Operand)
    (ho : o.op = .call { callee := .builtin .append, args := #[s, x], argTypes := #[33, 33] })
    (w : World) (lo hi B : Nat) (v u : Value) (xs ys : List Int) (hs : a.eval s = v) (hx : a.eval x = u)
    (hown : Ow w lo hi v xs) (hu : Sl w B u ys) (hlo : lo ≤ w.heap.size) (hlen : xs.length + ys.length ≤ 1000000000)
    (h : ∀ v' w', Ow w' lo w'.heap.size v' (xs ++ ys) → w.grownBy w' v.ownBlock → K (a.put o.dst v') w') : Oper.wp Tryz.prog o a w K Q := by
  have h1 := step_append_list (ops := #[]) (Q := Q) (E := True) hgd s x ho w lo hi B v u xs ys hs hx hown hu hlo hlen h
  rwa [if_pos (by simp [Region.wanted, hgd])] at h1
theorem OwBox.rkc {w : World} {S : Nat → Prop} {g : Nat} {m : Mac} (h : OwBox w S g m) : w.cell? ⟨g, 1, none⟩ = some (.int .i64 m.rk) ∧ S g := by
  obtain ⟨f, b, c, l, d, tag, hg, -, hx, -⟩ := h
  exact ⟨(box7 hx).1.2.1, hg⟩
/-- The row of a needle is read. -/
theorem OwBox.on {w : World} {S : Nat → Prop} {g : Nat} {m : Mac} (h : OwBox w S g m) (hS : ∀ j, S j → j < w.heap.size) {bed a : Int} (hb : bed = 1 ∨ bed = 2) (h0 : 0 ≤ a) (hk : a.toNat < (m.sd bed).length) :
    ∃ A c, Sl w w.heap.size (.slice A (m.on bed a).length c) (m.on bed a) ∧ ∀ w', Below w.heap.size w w' → Calls Tryz.prog 120 #[.pointer (some ⟨g, 0, none⟩), .agg #[.int .i64 bed, .int .i64 a]] w' fun e w2 => e = .returned (.slice A (m.on bed a).length c) ∧ Below w'.heap.size w' w2 := by
  obtain ⟨f, b, c, l, d, p, n, cap, u, S2, hx, e1, kn, hc, -, hr, s2, -, -, sg, -⟩ := h.row bed a.toNat hk hS
  have hsl := rw_sl hr fun j q => hS j (s2 j q)
  obtain ⟨A, cc, rfl, -⟩ := id hsl
  refine ⟨A, cc, hsl, fun w' hb' => ?_⟩
  have := l07On_any (bed := bed) (k := a.toNat) (o := 0) (keep_fwd hb' hx) hb kn e1 (by rw [Nat.zero_add]; exact (hb'.cell (block_lt_of_cell hc)).trans hc)
  rwa [Int.toNat_of_nonneg h0] at this
theorem l07Set_ndl {w : World} {S Su : Nat → Prop} {g : Nat} {m : Mac} {bed a : Int} {u : Value} {ys : List Int} (h : OwBox w S g m) (hS : ∀ j, S j → j < w.heap.size) (hb : bed = 1 ∨ bed = 2) (h0 : 0 ≤ a) (hk : a.toNat < (m.sd bed).length)
    (hu : (rw_ u ys).p w Su) (hSu : ∀ j, Su j → j < w.heap.size) (hd : ∀ j, Su j → ¬ S j) :
    Calls Tryz.prog 122 #[.pointer (some ⟨g, 0, none⟩), .agg #[.int .i64 bed, .int .i64 a], u] w fun e w' => e = .returned (.tuple #[]) ∧ OwBox w' (fun j => S j ∨ Su j) g (m.put bed a ys) ∧ ChgS S w w' := by
  have := l07Set_any (k := a.toNat) h hS hb hk hu hSu hd
  rw [Int.toNat_of_nonneg h0] at this
  exact this.mono fun e w' q => ⟨q.1, q.2.1, q.2.2.1⟩
/-- What l07Move leaves. -/
def moveM (m : Mac) (o : List Int) : Mac := if moveC m o = 0 then m.moved o else m
theorem moveC_8 {m : Mac} {o : List Int} (h : plc (gi o 2) (gi o 3) m.rk ≠ plc (gi o 4) (gi o 5) m.rk) : moveC m o = 8 ∧ moveM m o = m := by
  have : moveC m o = 8 := by unfold moveC; rw [if_pos h]
  exact ⟨this, by unfold moveM; rw [this]; rfl⟩
theorem moveC_7 {m : Mac} {o : List Int} (h : plc (gi o 2) (gi o 3) m.rk = plc (gi o 4) (gi o 5) m.rk) (h2 : (m.mine o).length = 0) : moveC m o = 7 ∧ moveM m o = m := by
  have : moveC m o = 7 := by unfold moveC; rw [if_neg (by simp [h]), if_pos h2]
  exact ⟨this, by unfold moveM; rw [this]; rfl⟩
theorem moveC_5 {m : Mac} {o : List Int} (h : plc (gi o 2) (gi o 3) m.rk = plc (gi o 4) (gi o 5) m.rk) (h2 : (m.mine o).length ≠ 0) (h3 : 4 < (m.mine o).length + (m.other o).length) : moveC m o = 5 ∧ moveM m o = m := by
  have : moveC m o = 5 := by unfold moveC; rw [if_neg (by simp [h]), if_neg h2, if_pos h3]
  exact ⟨this, by unfold moveM; rw [this]; rfl⟩
theorem moveC_0 {m : Mac} {o : List Int} (h : plc (gi o 2) (gi o 3) m.rk = plc (gi o 4) (gi o 5) m.rk) (h2 : (m.mine o).length ≠ 0) (h3 : ¬ 4 < (m.mine o).length + (m.other o).length) : moveC m o = 0 ∧ moveM m o = m.moved o := by
  have : moveC m o = 0 := by unfold moveC; rw [if_neg (by simp [h]), if_neg h2, if_neg h3]
  exact ⟨this, by unfold moveM; rw [this]; rfl⟩
theorem put_sdlen (m : Mac) (b a : Int) (ys : List Int) (b' : Int) : ((m.put b a ys).sd b').length = (m.sd b').length := by
  obtain ⟨-, -, -, -, -, p6, p7⟩ := put_parts m b a ys
  unfold Mac.sd
  split
  · exact p7
  · exact p6
/-- Facts on a transfer. -/
structure MovF (m : Mac) (o : List Int) : Prop where
  ok : OkM m
  n1 : m.ndl (gi o 2) (gi o 3)
  n2 : m.ndl (gi o 4) (gi o 5)
theorem OkM.onLen {m : Mac} (h : OkM m) (b a : Int) : (m.on b a).length ≤ 4 := by
  unfold Mac.on Mac.sd gl
  by_cases hk : a.toNat < (if b = 2 then m.bk else m.fr).length
  · rw [List.getD_eq_getElem?_getD, List.getElem?_eq_getElem hk]
    split at hk
    · rename_i e; simp only [e, if_true] ; exact h.sb _ (List.getElem_mem _)
    · rename_i e; simp only [e, if_false]; exact h.sf _ (List.getElem_mem _)
  · rw [List.getD_eq_getElem?_getD, List.getElem?_eq_none (by omega)]
    simp
set_option maxRecDepth 100000 in
set_option maxHeartbeats 1000000 in
theorem l07Move_any {w : World} {S : Nat → Prop} {g po oo : Nat} {m : Mac} {o : List Int} (h : OwBox w S g m) (hS : ∀ j, S j → j < w.heap.size) (hop : OpL w po oo o) (hpS : ¬ S po) (hf : MovF m o) :
    Calls Tryz.prog 119 #[.pointer (some ⟨g, 0, none⟩), .pointer (some ⟨po, oo, none⟩)] w fun e w' => e = .returned (.int .i64 (moveC m o)) ∧ OwBox w' (Now S w w') g (moveM m o) ∧ ChgS S w w' := by
  obtain ⟨hok, n1, n2⟩ := hf
  obtain ⟨hrk, sg⟩ := h.rkc
  have hgl := hS g sg
  have hpo := hop.lt
  have l1 := hok.onLen (gi o 2) (gi o 3)
  have l2 := hok.onLen (gi o 4) (gi o 5)
  have k1 := hok.sdlt n1
  have k2 := hok.sdlt n2
  have hwd := hok.wd
  have hr3 := hok.rk
  obtain ⟨b1, a1, a1'⟩ := n1
  obtain ⟨b2, a2, a2'⟩ := n2
  obtain ⟨A1, c1, hl1, hon1⟩ := h.on hS b1 a1 k1
  obtain ⟨A2, c2, hl2, hon2⟩ := h.on hS b2 a2 k2
  have HON1 := Lib.hid hon1
  have HON2 := Lib.hid hon2
  have HL1 := Lib.hid hl1
  have HL2 := Lib.hid hl2
  have HB := Lib.hid h
  have HS := Lib.hid hS
  have HB1 := Lib.hid b1
  have HB2 := Lib.hid b2
  have HOP := Lib.hid hop
  have HPL1 := Lib.hid (fun w' => l07Place_any (gi o 2) (gi o 3) m.rk w' (by omega) (by omega))
  have HPL2 := Lib.hid (fun w' => l07Place_any (gi o 4) (gi o 5) m.rk w' (by omega) (by omega))
  obtain ⟨o0, -, o2, o3, o4, o5, -, -⟩ := hop
  have HKO := Lib.hid (fun (w' : World) (q1 : w'.heap[po]? = w.heap[po]?) => show w'.cell? ⟨po, oo + 2, none⟩ = some (.int .i64 (gi o 2)) ∧ w'.cell? ⟨po, oo + 2 + 1, none⟩ = some (.int .i64 (gi o 3)) ∧ w'.cell? ⟨po, oo + 4, none⟩ = some (.int .i64 (gi o 4)) ∧ w'.cell? ⟨po, oo + 4 + 1, none⟩ = some (.int .i64 (gi o 5)) from
    ⟨by simp only [World.cell?, q1]; exact o2, by simp only [World.cell?, q1]; exact o3, by simp only [World.cell?, q1]; exact o4, by simp only [World.cell?, q1]; exact o5⟩)
  have HKG := Lib.hid (fun (w' : World) (q2 : w'.heap[g]? = w.heap[g]?) => show w'.cell? ⟨g, 1, none⟩ = some (.int .i64 m.rk) from by simp only [World.cell?, q2]; exact hrk)
  have HK := Lib.hid (fun (w' : World) (q1 : w'.heap[po]? = w.heap[po]?) (q2 : w'.heap[g]? = w.heap[g]?) => show w'.cell? ⟨po, oo + 2, none⟩ = some (.int .i64 (gi o 2)) ∧ w'.cell? ⟨po, oo + 2 + 1, none⟩ = some (.int .i64 (gi o 3)) ∧ w'.cell? ⟨po, oo + 4, none⟩ = some (.int .i64 (gi o 4)) ∧ w'.cell? ⟨po, oo + 4 + 1, none⟩ = some (.int .i64 (gi o 5)) ∧ w'.cell? ⟨g, 1, none⟩ = some (.int .i64 m.rk) from
    have h := HKO.out w' q1; ⟨h.1, h.2.1, h.2.2.1, h.2.2.2, HKG.out w' q2⟩)
  have HK1 := Lib.hid k1
  have HK2 := Lib.hid k2
  obtain ⟨q2, q3, q4, q5, q6⟩ := HK.out w rfl rfl
  clear h hS hon1 hon2 hl1 hl2 o0 o2 o3 o4 o5 b1 b2 hrk k1 k2 hok
  go_enter Tryz.func119, Tryz.ntmps119
  go_wp2_with fail
  refine (HON1.out w (Below.refl _ _)).mono ?_
  rintro e w1 ⟨rfl, hb1⟩
  clear q2 q3 q4 q5 q6
  obtain ⟨q2, q3, q4, q5, q6⟩ := HK.out w1 (hb1.block po hpo) (hb1.block g hgl)
  go_wp2_with fail
  refine (HON2.out w1 hb1).mono ?_
  rintro e w2 ⟨rfl, hb2⟩
  have hb02 : Below w.heap.size w w2 := hb1.trans (hb2.mono hb1.size)
  clear q2 q3 q4 q5 q6
  obtain ⟨q2, q3, q4, q5, q6⟩ := HK.out w2 (hb02.block po hpo) (hb02.block g hgl)
  have HB02 := Lib.hid hb02
  clear hb1 hb2
  go_wp2_with fail
  refine wp_region_z (fun w' => w'.cell? ⟨po, oo + 2, none⟩ = some (.int .i64 (gi o 2)) ∧ w'.cell? ⟨po, oo + 2 + 1, none⟩ = some (.int .i64 (gi o 3)) ∧ w'.cell? ⟨po, oo + 4, none⟩ = some (.int .i64 (gi o 4)) ∧ w'.cell? ⟨po, oo + 4 + 1, none⟩ = some (.int .i64 (gi o 5)) ∧ w'.cell? ⟨g, 1, none⟩ = some (.int .i64 m.rk)) 18 (by kernel_rfl) (HK.out _ (HB02.out.block po hpo) (HB02.out.block g hgl)) (fun hH0 => ?_)
  refine wpZ_take 0 20 (u := ?_) rfl (by kernel_rfl) (fun _ _ _ h => h) ⟨by rfl, ?_⟩ hH0 ?_
  rotate_left
  · intro w hSw; (try dsimp only at hSw); go_simp; (first | done | with_reducible rfl)
  try simp only [Act.put, sb1, sb2, sb3]
  refine wpZ_take 1 20 (u := ?_) rfl (by kernel_rfl) (fun _ _ _ h => h) ⟨by rfl, ?_⟩ hH0 ?_
  rotate_left
  · intro w hSw; (try dsimp only at hSw); go_simp; (first | done | with_reducible rfl)
  try simp only [Act.put, sb1, sb2, sb3]
  refine wpZ_take 2 20 (u := ?_) rfl (by kernel_rfl) (fun _ _ _ h => h) ⟨by rfl, ?_⟩ hH0 ?_
  rotate_left
  · intro w hSw; (try dsimp only at hSw); go_simp; (first | done | with_reducible rfl)
  try simp only [Act.put, sb1, sb2, sb3]
  refine wpZ_take 3 20 (u := ?_) rfl (by kernel_rfl) (fun _ _ _ h => h) ⟨by rfl, ?_⟩ hH0 ?_
  rotate_left
  · intro w hSw; (try dsimp only at hSw); go_simp; (first | done | with_reducible rfl)
  try simp only [Act.put, sb1, sb2, sb3]
  refine wpZ_take 4 20 (u := ?_) rfl (by kernel_rfl) (fun _ _ _ h => h) ⟨by rfl, ?_⟩ hH0 ?_
  rotate_left
  · intro w hSw; (try dsimp only at hSw); go_simp; (first | done | with_reducible rfl)
  try simp only [Act.put, sb1, sb2, sb3]
  refine wpZ_take 5 20 (u := ?_) rfl (by kernel_rfl) (fun _ _ _ h => h) ⟨by rfl, ?_⟩ hH0 ?_
  rotate_left
  · intro w hSw; (try dsimp only at hSw); go_simp; (first | done | with_reducible rfl)
  try simp only [Act.put, sb1, sb2, sb3]
  refine wpZ_take 6 20 (u := ?_) rfl (by kernel_rfl) (fun _ _ _ h => h) ⟨by rfl, ?_⟩ hH0 ?_
  rotate_left
  · intro w hSw; (try dsimp only at hSw); go_simp; (first | done | with_reducible rfl)
  try simp only [Act.put, sb1, sb2, sb3]
  refine wpZ_take 7 20 (u := ?_) rfl (by kernel_rfl) (fun _ _ _ h => h) ⟨by rfl, ?_⟩ hH0 ?_
  rotate_left
  · intro w hSw; (try dsimp only at hSw); go_simp; (first | done | with_reducible rfl)
  try simp only [Act.put, sb1, sb2, sb3]
  refine wpZ_take 9 20 (u := ?_) rfl (by kernel_rfl) (fun _ _ _ h => h) ⟨by rfl, ?_⟩ hH0 ?_
  rotate_left
  · intro w hSw; (try dsimp only at hSw); go_simp; (first | done | with_reducible rfl)
  try simp only [Act.put, sb1, sb2, sb3]
  refine wpZ_take 10 20 (u := ?_) rfl (by kernel_rfl) (fun _ _ _ h => h) ⟨by rfl, ?_⟩ hH0 ?_
  rotate_left
  · intro w hSw; (try dsimp only at hSw); go_simp; (first | done | with_reducible rfl)
  try simp only [Act.put, sb1, sb2, sb3]
  refine wpZ_take 11 20 (u := ?_) rfl (by kernel_rfl) (fun _ _ _ h => h) ⟨by rfl, ?_⟩ hH0 ?_
  rotate_left
  · intro w hSw; (try dsimp only at hSw); go_simp; (first | done | with_reducible rfl)
  try simp only [Act.put, sb1, sb2, sb3]
  refine wpZ_take 12 20 (u := ?_) rfl (by kernel_rfl) (fun _ _ _ h => h) ⟨by rfl, ?_⟩ hH0 ?_
  rotate_left
  · intro w hSw; (try dsimp only at hSw); go_simp; (first | done | with_reducible rfl)
  try simp only [Act.put, sb1, sb2, sb3]
  refine wpZ_take 13 20 (u := ?_) rfl (by kernel_rfl) (fun _ _ _ h => h) ⟨by rfl, ?_⟩ hH0 ?_
  rotate_left
  · intro w hSw; (try dsimp only at hSw); go_simp; (first | done | with_reducible rfl)
  try simp only [Act.put, sb1, sb2, sb3]
  refine wpZ_take 14 20 (u := ?_) rfl (by kernel_rfl) (fun _ _ _ h => h) ⟨by rfl, ?_⟩ hH0 ?_
  rotate_left
  · intro w hSw; (try dsimp only at hSw); go_simp; (first | done | with_reducible rfl)
  try simp only [Act.put, sb1, sb2, sb3]
  refine wpZ_take 15 20 (u := ?_) rfl (by kernel_rfl) (fun _ _ _ h => h) ⟨by rfl, ?_⟩ hH0 ?_
  rotate_left
  · intro w hSw; (try dsimp only at hSw); go_simp; (first | done | with_reducible rfl)
  try simp only [Act.put, sb1, sb2, sb3]
  refine wpZ_take 16 20 (u := ?_) rfl (by kernel_rfl) (fun _ _ _ h => h) ⟨by rfl, ?_⟩ hH0 ?_
  rotate_left
  · intro w hSw; (try dsimp only at hSw); go_simp; (first | done | with_reducible rfl)
  try simp only [Act.put, sb1, sb2, sb3]
  refine wpZ_only 8 rfl (by kernel_rfl) (by rfl) (fun K hK => ?_)
  go_simp
  go_at_call 111
  refine (HPL1.out _).mono ?_
  rintro e w3 ⟨rfl, hw3⟩
  have hb03 : Below w.heap.size w w3 := HB02.out.drew.trans (hw3.mono HB02.out.size)
  go_wp2_with fail
  refine hK.out _ _ ?_ (fun hH1 => ?_)
  · exact HK.out _ (hb03.block po hpo) (hb03.block g hgl)
  clear hK K hH0
  try simp only [Act.put, sb1, sb2, sb3]
  refine wpZ_only 17 rfl (by kernel_rfl) (by rfl) (fun K hK => ?_)
  go_simp
  go_at_call 111
  refine (HPL2.out _).mono ?_
  rintro e w4 ⟨rfl, hw4⟩
  have hb04 : Below w.heap.size w w4 := hb03.trans (hw4.mono hb03.size)
  go_wp2_with fail
  refine hK.out _ _ ?_ (fun hH2 => ?_)
  · exact HK.out _ (hb04.block po hpo) (hb04.block g hgl)
  clear hK K hH1
  try simp only [Act.put, sb1, sb2, sb3]
  refine wpZ_last rfl (by kernel_rfl) (by kernel_rfl) (by rfl) (fun K hK => ?_)
  go_simp
  refine hK.out _ _ ?_
  clear hK K hH2
  have HB4 := Lib.hid hb04
  clear q2 q3 q4 q5 q6
  obtain ⟨q2, q3, q4, q5⟩ := HKO.out w4 (hb04.block po hpo)
  clear hb02 hb03 hb04 hw3 hw4 HB02 HPL1 HPL2 HON1 HON2 HK HKG
  by_cases hp : plc (gi o 2) (gi o 3) m.rk = plc (gi o 4) (gi o 5) m.rk
  · have e1 : (plc (gi o 2) (gi o 3) m.rk != plc (gi o 4) (gi o 5) m.rk) = false := by simp [hp]
    have HP := Lib.hid hp
    clear hp
    by_cases h0 : (m.on (gi o 2) (gi o 3)).length = 0
    · have e2 : ((↑(m.on (gi o 2) (gi o 3)).length : Int) == 0) = true := by simp only [h0]; rfl
      have HR := Lib.hid (moveC_7 HP.out h0)
      clear h0
      go_wp2_with fail
      go_ret
      rw [HR.out.1, HR.out.2]
      exact ⟨rfl, (HB.out.below HS.out HB4.out).mono fun j q => .inl q, ChgS.of_below HB4.out⟩
    · have e2 : ((↑(m.on (gi o 2) (gi o 3)).length : Int) == 0) = false := by simp only [beq_eq_false_iff_ne, ne_eq]; omega
      by_cases h4 : 4 < (m.on (gi o 2) (gi o 3)).length + (m.on (gi o 4) (gi o 5)).length
      · have e3 : (4 : Int) < ↑(m.on (gi o 2) (gi o 3)).length + ↑(m.on (gi o 4) (gi o 5)).length := by omega
        have HR := Lib.hid (moveC_5 HP.out h0 h4)
        clear h0 h4
        go_wp2_with fail
        go_ret
        rw [HR.out.1, HR.out.2]
        exact ⟨rfl, (HB.out.below HS.out HB4.out).mono fun j q => .inl q, ChgS.of_below HB4.out⟩
      · have e3 : ¬ (4 : Int) < ↑(m.on (gi o 2) (gi o 3)).length + ↑(m.on (gi o 4) (gi o 5)).length := by omega
        have HR := Lib.hid (moveC_0 HP.out h0 h4)
        clear h0 h4
        by_cases hb : gi o 4 = 2
        · have e4 : (gi o 4 == 2) = true := by simp [hb]
          have HJ := Lib.hid (show m.joined o = m.on (gi o 2) (gi o 3) ++ m.on (gi o 4) (gi o 5) from if_pos hb)
          clear hb
          go_wp2_with fail
          refine wp_region_z (fun w' => w'.cell? ⟨po, oo + 2, none⟩ = some (.int .i64 (gi o 2)) ∧ w'.cell? ⟨po, oo + 2 + 1, none⟩ = some (.int .i64 (gi o 3)) ∧ w'.cell? ⟨po, oo + 4, none⟩ = some (.int .i64 (gi o 4)) ∧ w'.cell? ⟨po, oo + 4 + 1, none⟩ = some (.int .i64 (gi o 5))) 9 (by kernel_rfl) (HKO.out _ (HB4.out.block po hpo)) (fun hH0 => ?_)
          refine wpZ_take 0 11 (u := ?_) rfl (by kernel_rfl) (fun _ _ _ h => h) ⟨by rfl, ?_⟩ hH0 ?_
          rotate_left
          · intro w hSw; (try dsimp only at hSw); go_simp; (first | done | with_reducible rfl)
          try simp only [Act.put, sb1, sb2, sb3]
          refine wpZ_take 1 11 (u := ?_) rfl (by kernel_rfl) (fun _ _ _ h => h) ⟨by rfl, ?_⟩ hH0 ?_
          rotate_left
          · intro w hSw; (try dsimp only at hSw); go_simp; (first | done | with_reducible rfl)
          try simp only [Act.put, sb1, sb2, sb3]
          refine wpZ_take 2 11 (u := ?_) rfl (by kernel_rfl) (fun _ _ _ h => h) ⟨by rfl, ?_⟩ hH0 ?_
          rotate_left
          · intro w hSw; (try dsimp only at hSw); go_simp; (first | done | with_reducible rfl)
          try simp only [Act.put, sb1, sb2, sb3]
          refine wpZ_take 3 11 (u := ?_) rfl (by kernel_rfl) (fun _ _ _ h => h) ⟨by rfl, ?_⟩ hH0 ?_
          rotate_left
          · intro w hSw; (try dsimp only at hSw); go_simp; (first | done | with_reducible rfl)
          try simp only [Act.put, sb1, sb2, sb3]
          refine wpZ_take 4 11 (u := ?_) rfl (by kernel_rfl) (fun _ _ _ h => h) ⟨by rfl, ?_⟩ hH0 ?_
          rotate_left
          · intro w hSw; (try dsimp only at hSw); go_simp; (first | done | with_reducible rfl)
          try simp only [Act.put, sb1, sb2, sb3]
          refine wpZ_take 5 11 (u := ?_) rfl (by kernel_rfl) (fun _ _ _ h => h) ⟨by rfl, ?_⟩ hH0 ?_
          rotate_left
          · intro w hSw; (try dsimp only at hSw); go_simp; (first | done | with_reducible rfl)
          try simp only [Act.put, sb1, sb2, sb3]
          refine wpZ_take 7 11 (u := ?_) rfl (by kernel_rfl) (fun _ _ _ h => h) ⟨by rfl, ?_⟩ hH0 ?_
          rotate_left
          · intro w hSw; (try dsimp only at hSw); go_simp; (first | done | with_reducible rfl)
          try simp only [Act.put, sb1, sb2, sb3]
          refine wpZ_only 6 rfl (by kernel_rfl) (by rfl) (fun K hK => ?_)
          go_simp
          go_at_call 116
          refine (l00Own_any _ (m.on (gi o 2) (gi o 3)) w.heap.size _ (HL1.out.below HB4.out.drew (Nat.le_refl _)) HB4.out.size (by omega)).mono ?_
          rintro e w5 ⟨r5, rfl, ho5, hb5⟩
          obtain ⟨A5, c5, rfl, -⟩ := id (ho5.sl (Nat.le_refl _))
          have hb05 : Below w.heap.size w w5 := HB4.out.drew.trans (hb5.mono HB4.out.size)
          go_wp2_with fail
          refine hK.out _ _ ?_ (fun hH1 => ?_)
          · exact HKO.out _ (hb05.block po hpo)
          clear hK K hH0
          try simp only [Act.put, sb1, sb2, sb3]
          refine wpZ_only 8 rfl (by kernel_rfl) (by rfl) (fun K hK => ?_)
          refine op_append_list rfl _ _ rfl w5 _ _ _ _ _ (m.on (gi o 2) (gi o 3)) (m.on (gi o 4) (gi o 5)) rfl rfl ho5 (HL2.out.below hb05 (Nat.le_refl _)) hb5.size (by omega) ?_
          intro v6 w6 ho6 hg6
          obtain ⟨zs, hzs⟩ : ∃ zs, zs = m.on (gi o 2) (gi o 3) ++ m.on (gi o 4) (gi o 5) := ⟨_, rfl⟩
          rw [← hzs] at ho6
          have HZS := Lib.hid hzs
          clear hzs
          have hb56 : Below w.heap.size w5 w6 := ho5.grown hg6 HB4.out.size (Nat.le_trans HB4.out.size hb5.size)
          have hb06 : Below w.heap.size w w6 := hb05.trans hb56
          have h64 : w.heap.size ≤ w4.drew.heap.size := HB4.out.size
          obtain ⟨A6, c6, rfl, -⟩ := id (ho6.sl (Nat.le_refl _))
          refine hK.out _ _ ?_ (fun hH2 => ?_)
          · exact HKO.out _ (hb06.block po hpo)
          clear hK K hH1
          try simp only [Act.put, sb1, sb2, sb3]
          refine wpZ_last rfl (by kernel_rfl) (by kernel_rfl) (by rfl) (fun K hK => ?_)
          go_simp
          go_at_call 122
          have hs6 := l07Set_ndl (w := w6) (S := S) (Su := fun k => w4.drew.heap.size ≤ k ∧ k < w6.heap.size) (g := g) (m := m) (bed := gi o 4) (a := gi o 5) (u := .slice A6 zs.length c6) (ys := zs) (HB.out.below HS.out hb06) (fun j q => Nat.lt_of_lt_of_le (HS.out j q) hb06.size) HB2.out a2 HK2.out (rw_of_ow ho6) (fun j q => q.2) (fun j q1 q2 => by have := HS.out j q2; have := q1.1; omega)
          refine hs6.mono ?_
          rintro e w7 ⟨rfl, hx7, hc7⟩
          go_wp2_with fail
          refine hK.out _ _ ?_
          clear hK K hH2
          have hz6 := hb06.size
          have hz7 := hc7.size
          have hc07 : ChgS S w w7 := (ChgS.of_below hb06).trans hc7
          have hS7 : ∀ j, (S j ∨ (w4.drew.heap.size ≤ j ∧ j < w6.heap.size)) → j < w7.heap.size := fun j q => by
            rcases q with q | q
            · have := HS.out j q; omega
            · omega
          have HX7 := Lib.hid (hx7.below hS7 (al1 w7 (.cells #[] 2)))
          have HC07 := Lib.hid hc07
          have HZ := Lib.hid (And.intro h64 (And.intro hz6 hz7))
          clear q2 q3 q4 q5
          obtain ⟨q2, q3, q4, q5⟩ := HKO.out w7 ((hc7.block po (by omega) hpS).trans (hb06.block po hpo))
          clear hx7 hc7 hc07 ho6 ho5 hb5 hb05 hg6 hb56 hb06 hs6 h64 hz6 hz7
          have hs8 := l07Set_ndl (w := w7.alloc (.cells #[] 2)) (S := fun j => S j ∨ (w4.drew.heap.size ≤ j ∧ j < w6.heap.size)) (Su := fun k => w7.heap.size ≤ k ∧ k < (w7.alloc (.cells #[] 2)).heap.size) (g := g) (m := m.put (gi o 4) (gi o 5) zs) (bed := gi o 2) (a := gi o 3) (u := .slice (some ⟨w7.heap.size, 0, none⟩) 0 0) (ys := []) HX7.out (fun j q => by have := hS7 j q; simp; omega) HB1.out a1 (by rw [put_sdlen]; exact HK1.out) (rw_of_ow (Ow.empty w7)) (fun j q => q.2) (fun j q1 q2 => by have := hS7 j q2; have := q1.1; omega)
          have HS8 := Lib.hid hs8
          have HS7 := Lib.hid hS7
          clear hs8 hS7
          go_wp2_with fail
          refine HS8.out.mono ?_
          rintro e w8 ⟨rfl, hx8, hc8⟩
          have hz8 : w7.heap.size + 1 ≤ w8.heap.size := by have := hc8.size; simpa using this
          obtain ⟨h64, hz6, hz7⟩ := HZ.out
          have HX8 := Lib.hid hx8
          have HC8 := Lib.hid hc8
          clear hx8 hc8
          go_wp2_with fail
          go_ret
          rw [HR.out.1, HR.out.2]
          refine ⟨rfl, ?_, (HC07.out.below' (al1 w7 _)).then HC8.out fun j hj q => ?_⟩
          · have e : m.moved o = (m.put (gi o 4) (gi o 5) zs).put (gi o 2) (gi o 3) [] := by unfold Mac.moved; rw [HJ.out, HZS.out]
            rw [e]
            refine HX8.out.mono fun j q => ?_
            rcases q with (q | q) | q
            · exact .inl q
            · exact .inr ⟨by omega, by omega⟩
            · exact .inr ⟨by omega, by have := q.2; simp at this; omega⟩
          · rcases q with q | q
            · exact q
            · omega
        · have e4 : (gi o 4 == 2) = false := by simp [hb]
          have HJ := Lib.hid (show m.joined o = m.on (gi o 4) (gi o 5) ++ m.on (gi o 2) (gi o 3) from if_neg hb)
          clear hb
          go_wp2_with fail
          refine wp_region_z (fun w' => w'.cell? ⟨po, oo + 2, none⟩ = some (.int .i64 (gi o 2)) ∧ w'.cell? ⟨po, oo + 2 + 1, none⟩ = some (.int .i64 (gi o 3)) ∧ w'.cell? ⟨po, oo + 4, none⟩ = some (.int .i64 (gi o 4)) ∧ w'.cell? ⟨po, oo + 4 + 1, none⟩ = some (.int .i64 (gi o 5))) 9 (by kernel_rfl) (HKO.out _ (HB4.out.block po hpo)) (fun hH0 => ?_)
          refine wpZ_take 0 11 (u := ?_) rfl (by kernel_rfl) (fun _ _ _ h => h) ⟨by rfl, ?_⟩ hH0 ?_
          rotate_left
          · intro w hSw; (try dsimp only at hSw); go_simp; (first | done | with_reducible rfl)
          try simp only [Act.put, sb1, sb2, sb3]
          refine wpZ_take 1 11 (u := ?_) rfl (by kernel_rfl) (fun _ _ _ h => h) ⟨by rfl, ?_⟩ hH0 ?_
          rotate_left
          · intro w hSw; (try dsimp only at hSw); go_simp; (first | done | with_reducible rfl)
          try simp only [Act.put, sb1, sb2, sb3]
          refine wpZ_take 2 11 (u := ?_) rfl (by kernel_rfl) (fun _ _ _ h => h) ⟨by rfl, ?_⟩ hH0 ?_
          rotate_left
          · intro w hSw; (try dsimp only at hSw); go_simp; (first | done | with_reducible rfl)
          try simp only [Act.put, sb1, sb2, sb3]
          refine wpZ_take 3 11 (u := ?_) rfl (by kernel_rfl) (fun _ _ _ h => h) ⟨by rfl, ?_⟩ hH0 ?_
          rotate_left
          · intro w hSw; (try dsimp only at hSw); go_simp; (first | done | with_reducible rfl)
          try simp only [Act.put, sb1, sb2, sb3]
          refine wpZ_take 4 11 (u := ?_) rfl (by kernel_rfl) (fun _ _ _ h => h) ⟨by rfl, ?_⟩ hH0 ?_
          rotate_left
          · intro w hSw; (try dsimp only at hSw); go_simp; (first | done | with_reducible rfl)
          try simp only [Act.put, sb1, sb2, sb3]
          refine wpZ_take 5 11 (u := ?_) rfl (by kernel_rfl) (fun _ _ _ h => h) ⟨by rfl, ?_⟩ hH0 ?_
          rotate_left
          · intro w hSw; (try dsimp only at hSw); go_simp; (first | done | with_reducible rfl)
          try simp only [Act.put, sb1, sb2, sb3]
          refine wpZ_take 7 11 (u := ?_) rfl (by kernel_rfl) (fun _ _ _ h => h) ⟨by rfl, ?_⟩ hH0 ?_
          rotate_left
          · intro w hSw; (try dsimp only at hSw); go_simp; (first | done | with_reducible rfl)
          try simp only [Act.put, sb1, sb2, sb3]
          refine wpZ_only 6 rfl (by kernel_rfl) (by rfl) (fun K hK => ?_)
          go_simp
          go_at_call 116
          refine (l00Own_any _ (m.on (gi o 4) (gi o 5)) w.heap.size _ (HL2.out.below HB4.out.drew (Nat.le_refl _)) HB4.out.size (by omega)).mono ?_
          rintro e w5 ⟨r5, rfl, ho5, hb5⟩
          obtain ⟨A5, c5, rfl, -⟩ := id (ho5.sl (Nat.le_refl _))
          have hb05 : Below w.heap.size w w5 := HB4.out.drew.trans (hb5.mono HB4.out.size)
          go_wp2_with fail
          refine hK.out _ _ ?_ (fun hH1 => ?_)
          · exact HKO.out _ (hb05.block po hpo)
          clear hK K hH0
          try simp only [Act.put, sb1, sb2, sb3]
          refine wpZ_only 8 rfl (by kernel_rfl) (by rfl) (fun K hK => ?_)
          refine op_append_list rfl _ _ rfl w5 _ _ _ _ _ (m.on (gi o 4) (gi o 5)) (m.on (gi o 2) (gi o 3)) rfl rfl ho5 (HL1.out.below hb05 (Nat.le_refl _)) hb5.size (by omega) ?_
          intro v6 w6 ho6 hg6
          obtain ⟨zs, hzs⟩ : ∃ zs, zs = m.on (gi o 4) (gi o 5) ++ m.on (gi o 2) (gi o 3) := ⟨_, rfl⟩
          rw [← hzs] at ho6
          have HZS := Lib.hid hzs
          clear hzs
          have hb56 : Below w.heap.size w5 w6 := ho5.grown hg6 HB4.out.size (Nat.le_trans HB4.out.size hb5.size)
          have hb06 : Below w.heap.size w w6 := hb05.trans hb56
          have h64 : w.heap.size ≤ w4.drew.heap.size := HB4.out.size
          obtain ⟨A6, c6, rfl, -⟩ := id (ho6.sl (Nat.le_refl _))
          refine hK.out _ _ ?_ (fun hH2 => ?_)
          · exact HKO.out _ (hb06.block po hpo)
          clear hK K hH1
          try simp only [Act.put, sb1, sb2, sb3]
          refine wpZ_last rfl (by kernel_rfl) (by kernel_rfl) (by rfl) (fun K hK => ?_)
          go_simp
          go_at_call 122
          have hs6 := l07Set_ndl (w := w6) (S := S) (Su := fun k => w4.drew.heap.size ≤ k ∧ k < w6.heap.size) (g := g) (m := m) (bed := gi o 4) (a := gi o 5) (u := .slice A6 zs.length c6) (ys := zs) (HB.out.below HS.out hb06) (fun j q => Nat.lt_of_lt_of_le (HS.out j q) hb06.size) HB2.out a2 HK2.out (rw_of_ow ho6) (fun j q => q.2) (fun j q1 q2 => by have := HS.out j q2; have := q1.1; omega)
          refine hs6.mono ?_
          rintro e w7 ⟨rfl, hx7, hc7⟩
          go_wp2_with fail
          refine hK.out _ _ ?_
          clear hK K hH2
          have hz6 := hb06.size
          have hz7 := hc7.size
          have hc07 : ChgS S w w7 := (ChgS.of_below hb06).trans hc7
          have hS7 : ∀ j, (S j ∨ (w4.drew.heap.size ≤ j ∧ j < w6.heap.size)) → j < w7.heap.size := fun j q => by
            rcases q with q | q
            · have := HS.out j q; omega
            · omega
          have HX7 := Lib.hid (hx7.below hS7 (al1 w7 (.cells #[] 2)))
          have HC07 := Lib.hid hc07
          have HZ := Lib.hid (And.intro h64 (And.intro hz6 hz7))
          clear q2 q3 q4 q5
          obtain ⟨q2, q3, q4, q5⟩ := HKO.out w7 ((hc7.block po (by omega) hpS).trans (hb06.block po hpo))
          clear hx7 hc7 hc07 ho6 ho5 hb5 hb05 hg6 hb56 hb06 hs6 h64 hz6 hz7
          have hs8 := l07Set_ndl (w := w7.alloc (.cells #[] 2)) (S := fun j => S j ∨ (w4.drew.heap.size ≤ j ∧ j < w6.heap.size)) (Su := fun k => w7.heap.size ≤ k ∧ k < (w7.alloc (.cells #[] 2)).heap.size) (g := g) (m := m.put (gi o 4) (gi o 5) zs) (bed := gi o 2) (a := gi o 3) (u := .slice (some ⟨w7.heap.size, 0, none⟩) 0 0) (ys := []) HX7.out (fun j q => by have := hS7 j q; simp; omega) HB1.out a1 (by rw [put_sdlen]; exact HK1.out) (rw_of_ow (Ow.empty w7)) (fun j q => q.2) (fun j q1 q2 => by have := hS7 j q2; have := q1.1; omega)
          have HS8 := Lib.hid hs8
          have HS7 := Lib.hid hS7
          clear hs8 hS7
          go_wp2_with fail
          refine HS8.out.mono ?_
          rintro e w8 ⟨rfl, hx8, hc8⟩
          have hz8 : w7.heap.size + 1 ≤ w8.heap.size := by have := hc8.size; simpa using this
          obtain ⟨h64, hz6, hz7⟩ := HZ.out
          have HX8 := Lib.hid hx8
          have HC8 := Lib.hid hc8
          clear hx8 hc8
          go_wp2_with fail
          go_ret
          rw [HR.out.1, HR.out.2]
          refine ⟨rfl, ?_, (HC07.out.below' (al1 w7 _)).then HC8.out fun j hj q => ?_⟩
          · have e : m.moved o = (m.put (gi o 4) (gi o 5) zs).put (gi o 2) (gi o 3) [] := by unfold Mac.moved; rw [HJ.out, HZS.out]
            rw [e]
            refine HX8.out.mono fun j q => ?_
            rcases q with (q | q) | q
            · exact .inl q
            · exact .inr ⟨by omega, by omega⟩
            · exact .inr ⟨by omega, by have := q.2; simp at this; omega⟩
          · rcases q with q | q
            · exact q
            · omega
  · have e1 : (plc (gi o 2) (gi o 3) m.rk != plc (gi o 4) (gi o 5) m.rk) = true := by simp [hp]
    have HR := Lib.hid (moveC_8 hp)
    clear hp
    go_wp2_with fail
    go_ret
    rw [HR.out.1, HR.out.2]
    exact ⟨rfl, (HB.out.below HS.out HB4.out).mono fun j q => .inl q, ChgS.of_below HB4.out⟩
end Go.Proofs.YtgmppfhokfifgaaGreatDoor
/-
  Contract: the reference's l07In (on a machine in a box).
-/
namespace Go.Proofs.YtgmppfhokfifgaaGreatDoor
set_option maxRecDepth 10000
open Go.RowKit

theorem OwBox.carA' {w : World} {S : Nat → Prop} {g : Nat} {m : Mac} {k : Nat} {c0 : Bool × Int} (hk : k < m.cr.length) (h : OwBox w S g { m with cr := m.cr.set k c0 }) {f b l d : Value} {p n cap : Nat} (hx : w.heap[g]? = some (.cells #[.int .i64 m.wd, .int .i64 m.rk, f, b, .slice (some ⟨p, 0, none⟩) n cap, l, d] 75)) (a : Bool) :
    OwBox (w.setCell ⟨p, k * 2, none⟩ (.bool a)) S g { m with cr := m.cr.set k (a, c0.2) } ∧ ChgS S w (w.setCell ⟨p, k * 2, none⟩ (.bool a)) ∧
      (w.setCell ⟨p, k * 2, none⟩ (.bool a)).heap[g]? = some (.cells #[.int .i64 m.wd, .int .i64 m.rk, f, b, .slice (some ⟨p, 0, none⟩) n cap, l, d] 75) := by
  have := h.carA hx k (by simpa using hk) a
  rw [gc_set hk, Mac.cr_set2] at this
  exact this
theorem OwBox.carX' {w : World} {S : Nat → Prop} {g : Nat} {m : Mac} {k : Nat} {c0 : Bool × Int} (hk : k < m.cr.length) (h : OwBox w S g { m with cr := m.cr.set k c0 }) {f b l d : Value} {p n cap : Nat} (hx : w.heap[g]? = some (.cells #[.int .i64 m.wd, .int .i64 m.rk, f, b, .slice (some ⟨p, 0, none⟩) n cap, l, d] 75)) (x : Int) :
    OwBox (w.setCell ⟨p, k * 2 + 1, none⟩ (.int .i64 x)) S g { m with cr := m.cr.set k (c0.1, x) } ∧ ChgS S w (w.setCell ⟨p, k * 2 + 1, none⟩ (.int .i64 x)) ∧
      (w.setCell ⟨p, k * 2 + 1, none⟩ (.int .i64 x)).heap[g]? = some (.cells #[.int .i64 m.wd, .int .i64 m.rk, f, b, .slice (some ⟨p, 0, none⟩) n cap, l, d] 75) := by
  have := h.carX hx k (by simpa using hk) x
  rw [gc_set hk, Mac.cr_set2] at this
  exact this
/-- What l07In answers and leaves. -/
def inC (m : Mac) (o : List Int) : Int := if (m.car o).1 = decide (gi o 0 = 8) then 9 else 0
def inM (m : Mac) (o : List Int) : Mac := if (m.car o).1 = decide (gi o 0 = 8) then m else if gi o 0 = 8 then m.setC o (true, if gi o 1 = -1 then m.wd + 3 else -3) else m.setC o (false, 0)
set_option maxRecDepth 100000 in
set_option maxHeartbeats 3200000 in
theorem l07In_any {w : World} {S : Nat → Prop} {g po oo : Nat} {m : Mac} {o : List Int} (h : OwBox w S g m) (hop : OpL w po oo o) (hpS : ¬ S po) (hcr : m.cr.length = 4) (hwd : 1 ≤ m.wd ∧ m.wd ≤ 24) (hc : 1 ≤ gi o 6 ∧ gi o 6 ≤ 4) :
    Calls Tryz.prog 123 #[.pointer (some ⟨g, 0, none⟩), .pointer (some ⟨po, oo, none⟩)] w fun e w' => e = .returned (.int .i64 (inC m o)) ∧ OwBox w' S g (inM m o) ∧ ChgS S w w' := by
  obtain ⟨c1, c4⟩ := hc
  obtain ⟨K, hK⟩ : ∃ K : Nat, gi o 6 = (K : Int) + 1 := ⟨(gi o 6 - 1).toNat, by omega⟩
  have hKl : K < m.cr.length := by omega
  have hK3 : (K : Int) ≤ 3 := by omega
  have hK0 : (0 : Int) ≤ (K : Int) := by omega
  obtain ⟨f, b, l, d, p, n, cap, hx, hn, sg, sp, pg, k0, k1, f0, f1⟩ := h.cars K hKl
  have hgl := heap_lt hx
  have hpl := block_lt_of_cell k0
  simp only at hpl
  have hKn : K < n := by omega
  have hne1 : ¬ p = po := fun q => hpS (q ▸ sp)
  have hne2 : ¬ po = p := fun q => hpS (q ▸ sp)
  have HCE := Lib.hid (car_eq (m := m) hK)
  have e6 : (gi o 6 - 1).toNat = K := by omega
  have hSC : ∀ c, m.setC o c = { m with cr := m.cr.set K c } := fun c => by simp only [Mac.setC, e6]
  -- what the stores leave
  have hR : ∀ k : Nat, (OwBox (((w.drewN k).setCell ⟨p, K * 2, none⟩ (.bool false)).setCell ⟨p, K * 2 + 1, none⟩ (.int .i64 0)) S g { m with cr := m.cr.set K (false, 0) } ∧ ChgS S w (((w.drewN k).setCell ⟨p, K * 2, none⟩ (.bool false)).setCell ⟨p, K * 2 + 1, none⟩ (.int .i64 0))) ∧
      (OwBox (((((w.drewN k).setCell ⟨p, K * 2, none⟩ (.bool false)).setCell ⟨p, K * 2 + 1, none⟩ (.int .i64 0)).setCell ⟨p, K * 2, none⟩ (.bool true)).setCell ⟨p, K * 2 + 1, none⟩ (.int .i64 (-3))) S g { m with cr := m.cr.set K (true, -3) } ∧ ChgS S w (((((w.drewN k).setCell ⟨p, K * 2, none⟩ (.bool false)).setCell ⟨p, K * 2 + 1, none⟩ (.int .i64 0)).setCell ⟨p, K * 2, none⟩ (.bool true)).setCell ⟨p, K * 2 + 1, none⟩ (.int .i64 (-3)))) ∧
      (OwBox ((((((w.drewN k).setCell ⟨p, K * 2, none⟩ (.bool false)).setCell ⟨p, K * 2 + 1, none⟩ (.int .i64 0)).setCell ⟨p, K * 2, none⟩ (.bool true)).setCell ⟨p, K * 2 + 1, none⟩ (.int .i64 (-3))).setCell ⟨p, K * 2 + 1, none⟩ (.int .i64 (m.wd + 3))) S g { m with cr := m.cr.set K (true, m.wd + 3) } ∧ ChgS S w ((((((w.drewN k).setCell ⟨p, K * 2, none⟩ (.bool false)).setCell ⟨p, K * 2 + 1, none⟩ (.int .i64 0)).setCell ⟨p, K * 2, none⟩ (.bool true)).setCell ⟨p, K * 2 + 1, none⟩ (.int .i64 (-3))).setCell ⟨p, K * 2 + 1, none⟩ (.int .i64 (m.wd + 3)))) := fun k => by
    have h0 : OwBox (w.drewN k) S g m := h.keep fun _ _ => rfl
    have c0 : ChgS S w (w.drewN k) := ChgS.of_below (below_drewN (Below.refl _ _) k)
    have s1 := h0.carA (w := w.drewN k) hx K hKl false
    have s2 := s1.1.carX' hKl s1.2.2 0
    have s3 := s2.1.carA' hKl s2.2.2 true
    have s4 := s3.1.carX' hKl s3.2.2 (-3)
    have s5 := s4.1.carX' hKl s4.2.2 (m.wd + 3)
    have c2 := (c0.trans s1.2.1).trans s2.2.1
    have c4 := (c2.trans s3.2.1).trans s4.2.1
    exact ⟨⟨s2.1, c2⟩, ⟨s4.1, c4⟩, ⟨s5.1, c4.trans s5.2.1⟩⟩
  have HR := Lib.hid hR
  have hne3 : ¬ p = g := pg
  have hne4 : ¬ g = p := fun q => pg q.symm
  clear hR
  have HH := Lib.hid h
  have HSC := Lib.hid hSC
  have hpo := hop.lt
  obtain ⟨o0, o1, -, -, -, -, o6, -⟩ := hop
  rw [hK] at o6
  obtain ⟨⟨g0, -, -, -, g4, -, -⟩, -, -⟩ := box7 hx
  clear hx h hpS sp hcr hK e6 hSC sg c1 c4
  generalize hca : (gc m.cr K).1 = ca at *
  by_cases h8 : gi o 0 = 8
  · have e8 : (gi o 0 == 8) = true := by simp [h8]
    have H8 := Lib.hid h8
    clear h8
    cases ca
    · have HC : Hid (inC m o = 0 ∧ inM m o = m.setC o (true, if gi o 1 = -1 then m.wd + 3 else -3)) := Lib.hid (by unfold inC inM; rw [HCE.out, hca, H8.out]; simp)
      clear hca
      by_cases hd : gi o 1 = -1
      · have e1 : (gi o 1 == -1) = true := by simp [hd]
        have hN : ∀ k : Nat, (((((w.drewN k).setCell ⟨p, K * 2, none⟩ (.bool false)).setCell ⟨p, K * 2 + 1, none⟩ (.int .i64 0)).setCell ⟨p, K * 2, none⟩ (.bool true)).setCell ⟨p, K * 2 + 1, none⟩ (.int .i64 (-3))).cell? ⟨p, K * 2 + 1, none⟩ = some (.int .i64 (-3)) := fun k => by
          have ne : (⟨p, K * 2, none⟩ : Addr) ≠ ⟨p, K * 2 + 1, none⟩ := fun e => by injection e with _ e; omega
          exact World.cell?_setCell_same _ _ _ (u := .int .i64 0) (by rw [World.cell?_setCell_other _ _ _ _ ne]; exact World.cell?_setCell_same _ _ _ (u := .int .i64 (gc m.cr K).2) (by rw [World.cell?_setCell_other _ _ _ _ ne]; exact k1))
        have HD := Lib.hid hd
        clear hd
        go_enter Tryz.func123, Tryz.ntmps123
        go_wp2_with fail
        go_quiet (fail)
        go_wp2_with fail
        go_quiet (fail)
        go_wp2_with fail
        go_ret
        rw [HC.out.1, HC.out.2]
        rw [HSC.out, if_pos HD.out]
        exact ⟨rfl, (HR.out _).2.2.1, (HR.out _).2.2.2⟩
      · have e1 : (gi o 1 == -1) = false := by simp [hd]
        have HD := Lib.hid hd
        clear hd
        go_enter Tryz.func123, Tryz.ntmps123
        go_wp2_with fail
        go_quiet (fail)
        go_wp2_with fail
        go_quiet (fail)
        go_wp2_with fail
        go_ret
        rw [HC.out.1, HC.out.2]
        rw [HSC.out, if_neg HD.out]
        exact ⟨rfl, (HR.out _).2.1.1, (HR.out _).2.1.2⟩
    · have HC : Hid (inC m o = 9 ∧ inM m o = m) := Lib.hid (by unfold inC inM; rw [HCE.out, hca, H8.out]; simp)
      clear hca
      go_enter Tryz.func123, Tryz.ntmps123
      go_wp2_with fail
      go_quiet (fail)
      go_wp2_with fail
      go_quiet (fail)
      go_wp2_with fail
      go_ret
      rw [HC.out.1, HC.out.2]
      exact ⟨rfl, HH.out.keep fun _ _ => rfl, ChgS.of_below ((below_drewN (Below.refl _ _) _).trans (below_drewN (Below.refl _ _) _))⟩
  · have e8 : (gi o 0 == 8) = false := by simp [h8]
    have H8 := Lib.hid h8
    clear h8
    cases ca
    · have HC : Hid (inC m o = 9 ∧ inM m o = m) := Lib.hid (by unfold inC inM; rw [HCE.out, hca]; simp [H8.out])
      clear hca
      go_enter Tryz.func123, Tryz.ntmps123
      go_wp2_with fail
      go_quiet (fail)
      go_wp2_with fail
      go_quiet (fail)
      go_wp2_with fail
      go_ret
      rw [HC.out.1, HC.out.2]
      exact ⟨rfl, HH.out.keep fun _ _ => rfl, ChgS.of_below ((below_drewN (Below.refl _ _) _).trans (below_drewN (Below.refl _ _) _))⟩
    · have HC : Hid (inC m o = 0 ∧ inM m o = m.setC o (false, 0)) := Lib.hid (by unfold inC inM; rw [HCE.out, hca]; simp [H8.out])
      clear hca
      go_enter Tryz.func123, Tryz.ntmps123
      go_wp2_with fail
      go_quiet (fail)
      go_wp2_with fail
      go_quiet (fail)
      go_wp2_with fail
      go_ret
      rw [HC.out.1, HC.out.2]
      rw [HSC.out]
      exact ⟨rfl, (HR.out _).1.1, (HR.out _).1.2⟩
end Go.Proofs.YtgmppfhokfifgaaGreatDoor
/-
  Contract: the reference's l07Form (on a machine in a box). The drawn regions are printed by gen_msf.py.
-/
namespace Go.Proofs.YtgmppfhokfifgaaGreatDoor
set_option maxRecDepth 10000
open Go.RowKit

theorem Ow.lit1 (w : World) (n : Int) : Ow (w.alloc (.cells #[.int .i64 n] 2)) w.heap.size (w.alloc (.cells #[.int .i64 n] 2)).heap.size (.slice (some ⟨w.heap.size, 0, none⟩) 1 1) [n] :=
  Ow.of_own (us := [.int .i64 n]) ⟨rfl, .inr ⟨w.heap.size, 1, #[.int .i64 n], rfl, Nat.le_refl _, alloc_at_ w _, Nat.le_refl _, by simp [maxLen], rfl, rfl⟩⟩ rfl rfl
theorem OwBox.lpc {w : World} {S : Nat → Prop} {g : Nat} {m : Mac} (h : OwBox w S g m) : ∃ A c, w.cell? ⟨g, 5, none⟩ = some (.slice A m.lp.length c) := by
  obtain ⟨f, b, c, l, d, tag, hg, -, hx, hp⟩ := h
  obtain ⟨vs, tg, v1, v2, ⟨v3, v3'⟩, v4⟩ := hp.lp
  have hform := (OwR.of_own v1).form
  have h5 := (box7 hx).1.2.2.2.2.2.1
  rcases hform with ⟨rfl, h0, -⟩ | ⟨q, cap, rfl, -⟩
  · exact ⟨none, 0, by rw [h0]; exact h5⟩
  · exact ⟨_, cap, h5⟩
theorem rw_one {w : World} {lo hi : Nat} {v : Value} {xs : List Int} {n : Int} (h : OwR 2 1 w lo hi v (xs.length + 1) (vals xs ++ [.int .i64 n])) : (rw_ v (xs ++ [n])).p w (fun j => v.ownBlock = some j) := by
  refine ⟨?_, fun g hg => hg⟩
  have h1 := (h.mono (Nat.zero_le _) (Nat.le_refl _)).1
  rw [List.length_append, vals_append]
  exact h1
theorem moved_lp (m : Mac) (o : List Int) : (m.moved o).lp = m.lp := by
  unfold Mac.moved
  rw [(put_parts _ _ _ _).2.2.2.1, (put_parts _ _ _ _).2.2.2.1]
/-- A loop is made and put on its needle: what is left. -/
theorem mkset_end {W w8 w9 : World} {S : Nat → Prop} {g : Nat} {M : Mac} {ob : Obj} (hc8 : ChgS S W w8) (hx9 : OwBox w9 (fun j => Now S W w8 j ∨ (w8.heap.size ≤ j ∧ j < (w8.alloc ob).heap.size)) g M) (hc9 : ChgS (Now S W w8) (w8.alloc ob) w9) :
    OwBox w9 (Now S W w9) g M ∧ ChgS S W w9 := by
  have z8 := hc8.size
  have z9 : w8.heap.size + 1 ≤ w9.heap.size := by have := hc9.size; simpa using this
  refine ⟨hx9.mono fun j q => ?_, (hc8.below' (al1 w8 _)).then hc9 fun j hj q => ?_⟩
  · rcases q with (q | q) | q
    · exact .inl q
    · exact .inr ⟨q.1, by omega⟩
    · exact .inr ⟨by omega, by have := q.2; simp at this; omega⟩
  · rcases q with q | q
    · exact q
    · omega
/-- What l07Form answers and leaves. -/
def formC (m : Mac) (o : List Int) : Int :=
  if carryB m o = false then 9 else if 300 ≤ m.lp.length then 5 else if gi o 0 = 1 then 0 else if gi o 0 = 2 then (if 4 ≤ (m.mine o).length then 5 else 0) else moveC m o
def formM (m : Mac) (o : List Int) : Mac :=
  if gi o 0 = 1 then ((m.carried o).made o (m.mine o)).put (gi o 2) (gi o 3) [m.n]
  else if gi o 0 = 2 then ((m.carried o).made o []).put (gi o 2) (gi o 3) (m.mine o ++ [m.n])
  else (((m.carried o).moved o).made o (m.mine o)).put (gi o 2) (gi o 3) [m.n]
structure FrmF (m : Mac) (o : List Int) : Prop where
  ok : OkM m
  dir : pur (gi o 1)
  n1 : m.ndl (gi o 2) (gi o 3)
  n2 : gi o 0 ≠ 1 → gi o 0 ≠ 2 → m.ndl (gi o 4) (gi o 5)
  c1 : 1 ≤ gi o 6
  c4 : gi o 6 ≤ 4
theorem FrmF.car {m : Mac} {o : List Int} (h : FrmF m o) : CarF m o :=
  ⟨h.ok, h.dir, h.n1.1, h.n1.2.1, by have := h.n1.2.2; have := h.ok.wd; omega, h.c1, h.c4⟩
set_option maxRecDepth 100000 in
set_option maxHeartbeats 3200000 in
theorem l07Form_any {w : World} {S : Nat → Prop} {g po oo : Nat} {m : Mac} {o : List Int} (h : OwBox w S g m) (hS : ∀ j, S j → j < w.heap.size) (hop : OpL w po oo o) (hpS : ¬ S po) (hf : FrmF m o) :
    Calls Tryz.prog 117 #[.pointer (some ⟨g, 0, none⟩), .pointer (some ⟨po, oo, none⟩)] w fun e w' => e = .returned (.int .i64 (formC m o)) ∧ (formC m o = 0 → OwBox w' (Now S w w') g (formM m o)) ∧ ChgS S w w' := by
  have hcar := hf.car
  have HF := Lib.hid hf
  have hpo := hop.lt
  have HOP := Lib.hid hop
  have HS := Lib.hid hS
  have k1 := hf.ok.sdlt hf.n1
  obtain ⟨b1, a1, a1'⟩ := hf.n1
  have l1 := hf.ok.onLen (gi o 2) (gi o 3)
  have hlp := hf.ok.lp
  have HCARRY := Lib.hid (l07Carry_any h hS hop hpS hcar)
  have sg : S g := h.rkc.2
  have hgl := hS g sg
  obtain ⟨o0, -, o2, o3, -, -, -, -⟩ := hop
  have HKO := Lib.hid (fun (w' : World) (q1 : w'.heap[po]? = w.heap[po]?) => show w'.cell? ⟨po, oo, none⟩ = some (.int .i64 (gi o 0)) ∧ w'.cell? ⟨po, oo + 2, none⟩ = some (.int .i64 (gi o 2)) ∧ w'.cell? ⟨po, oo + 2 + 1, none⟩ = some (.int .i64 (gi o 3)) from
    ⟨by simp only [World.cell?, q1]; exact o0, by simp only [World.cell?, q1]; exact o2, by simp only [World.cell?, q1]; exact o3⟩)
  have HB1 := Lib.hid b1
  have HK1 := Lib.hid k1
  clear h hS hf hcar o0 o2 o3 k1 b1
  go_enter Tryz.func117, Tryz.ntmps117
  go_wp2_with fail
  refine HCARRY.out.mono ?_
  rintro e w1 ⟨rfl, hx1, hc1⟩
  cases hcb : carryB m o
  · have HC : Hid (formC m o = 9) := Lib.hid (by unfold formC; rw [if_pos hcb])
    clear hcb hx1
    have HC1 := Lib.hid hc1
    clear hc1
    go_wp2_with fail
    go_ret
    rw [HC.out]
    exact ⟨rfl, fun q => absurd q (by decide), HC1.out⟩
  · rw [doneC_yes hcb] at hx1
    obtain ⟨Al, cl, q5⟩ : ∃ A c, w1.cell? ⟨g, 5, none⟩ = some (.slice A m.lp.length c) := hx1.lpc
    have hz1 := hc1.size
    have hp1 := hc1.block po hpo hpS
    obtain ⟨q0, q2, q3⟩ := HKO.out w1 hp1
    have hS1 : ∀ j, S j → j < w1.heap.size := fun j q => Nat.lt_of_lt_of_le (HS.out j q) hz1
    obtain ⟨A1, c1, hl1, hon1⟩ : ∃ A c, Sl w1 w1.heap.size (.slice A (m.on (gi o 2) (gi o 3)).length c) (m.on (gi o 2) (gi o 3)) ∧ ∀ w', Below w1.heap.size w1 w' → Calls Tryz.prog 120 #[.pointer (some ⟨g, 0, none⟩), .agg #[.int .i64 (gi o 2), .int .i64 (gi o 3)]] w' fun e w2 => e = .returned (.slice A (m.on (gi o 2) (gi o 3)).length c) ∧ Below w'.heap.size w' w2 := hx1.on hS1 HB1.out a1 (by exact HK1.out)
    have HON := Lib.hid hon1
    have HL1 := Lib.hid (show Sl w1 w1.heap.size (.slice A1 (m.on (gi o 2) (gi o 3)).length c1) (m.on (gi o 2) (gi o 3)) from hl1)
    have HX1 := Lib.hid hx1
    have HC1 := Lib.hid hc1
    have HS1 := Lib.hid hS1
    have HP1 := Lib.hid hp1
    have HCB := Lib.hid hcb
    clear hx1 hc1 hS1 hp1 hon1 hl1 hcb
    by_cases h3 : 300 ≤ m.lp.length
    · have e3 : (300 : Int) ≤ ↑m.lp.length := by omega
      have HC : Hid (formC m o = 5) := Lib.hid (by unfold formC; rw [if_neg (by rw [HCB.out]; decide), if_pos h3])
      clear h3
      go_wp2_with fail
      go_ret
      rw [HC.out]
      exact ⟨rfl, fun q => absurd q (by decide), HC1.out⟩
    · have e3 : ¬ (300 : Int) ≤ ↑m.lp.length := by omega
      have H3 := Lib.hid h3
      clear h3
      go_wp2_with fail
      refine (HON.out w1 (Below.refl _ _)).mono ?_
      rintro e w2 ⟨rfl, hb2⟩
      have HB2 := Lib.hid hb2
      clear hb2
      go_wp2_with fail
      refine (l00Own_any _ (m.on (gi o 2) (gi o 3)) w1.heap.size w2 (HL1.out.below HB2.out (Nat.le_refl _)) HB2.out.size (by omega)).mono ?_
      rintro e w3 ⟨r3, rfl, ho3, hb3⟩
      obtain ⟨A3, c3, rfl, -⟩ := id (ho3.sl (Nat.le_refl _))
      have hb13 : Below w1.heap.size w1 w3 := HB2.out.trans (hb3.mono HB2.out.size)
      have hp3 := (hb13.block po (by omega)).trans HP1.out
      clear q0 q2 q3
      obtain ⟨q0, q2, q3⟩ := HKO.out w3 hp3
      have HO3 := Lib.hid (ho3.mono HB2.out.size (Nat.le_refl _))
      have HB3 := Lib.hid hb13
      have HP3 := Lib.hid hp3
      have HX3 := Lib.hid (HX1.out.below HS1.out hb13)
      have hz3 := hb13.size
      have HC3 := Lib.hid (HC1.out.below' hb13)
      clear ho3 hb3 hb13 hp3 HON
      have hpo3 : po < w3.heap.size := by omega
      by_cases h1 : gi o 0 = 1
      · have e1 : (gi o 0 == 1) = true := by simp [h1]
        have HC : Hid (formC m o = 0 ∧ formM m o = ((m.carried o).made o (m.mine o)).put (gi o 2) (gi o 3) [m.n]) := Lib.hid (by unfold formC formM; rw [if_neg (by rw [HCB.out]; decide), if_neg H3.out, if_pos h1, if_pos h1]; exact ⟨rfl, rfl⟩)
        clear h1
        go_wp2_with fail
        refine wp_region_z (fun w' => w'.cell? ⟨po, oo, none⟩ = some (.int .i64 (gi o 0)) ∧ w'.cell? ⟨po, oo + 2, none⟩ = some (.int .i64 (gi o 2)) ∧ w'.cell? ⟨po, oo + 2 + 1, none⟩ = some (.int .i64 (gi o 3))) 10 (by kernel_rfl) (HKO.out _ HP3.out) (fun hH0 => ?_)
        refine wpZ_take 0 12 (u := ?_) rfl (by kernel_rfl) (fun _ _ _ h => h) ⟨by rfl, ?_⟩ hH0 ?_
        rotate_left
        · intro w hSw; (try dsimp only at hSw); go_simp; (first | done | with_reducible rfl)
        try simp only [Act.put, sb1, sb2, sb3]
        refine wpZ_take 1 12 (u := ?_) rfl (by kernel_rfl) (fun _ _ _ h => h) ⟨by rfl, ?_⟩ hH0 ?_
        rotate_left
        · intro w hSw; (try dsimp only at hSw); go_simp; (first | done | with_reducible rfl)
        try simp only [Act.put, sb1, sb2, sb3]
        refine wpZ_take 2 12 (u := ?_) rfl (by kernel_rfl) (fun _ _ _ h => h) ⟨by rfl, ?_⟩ hH0 ?_
        rotate_left
        · intro w hSw; (try dsimp only at hSw); go_simp; (first | done | with_reducible rfl)
        try simp only [Act.put, sb1, sb2, sb3]
        refine wpZ_take 3 12 (u := ?_) rfl (by kernel_rfl) (fun _ _ _ h => h) ⟨by rfl, ?_⟩ hH0 ?_
        rotate_left
        · intro w hSw; (try dsimp only at hSw); go_simp; (first | done | with_reducible rfl)
        try simp only [Act.put, sb1, sb2, sb3]
        refine wpZ_take 4 12 (u := ?_) rfl (by kernel_rfl) (fun _ _ _ h => h) ⟨by rfl, ?_⟩ hH0 ?_
        rotate_left
        · intro w hSw; (try dsimp only at hSw); go_simp; (first | done | with_reducible rfl)
        try simp only [Act.put, sb1, sb2, sb3]
        refine wpZ_take 5 12 (u := ?_) rfl (by kernel_rfl) (fun _ _ _ h => h) ⟨by rfl, ?_⟩ hH0 ?_
        rotate_left
        · intro w hSw; (try dsimp only at hSw); go_simp; (first | done | with_reducible rfl)
        try simp only [Act.put, sb1, sb2, sb3]
        refine wpZ_take 6 12 (u := ?_) rfl (by kernel_rfl) (fun _ _ _ h => h) ⟨by rfl, ?_⟩ hH0 ?_
        rotate_left
        · intro w hSw; (try dsimp only at hSw); go_simp; (first | done | with_reducible rfl)
        try simp only [Act.put, sb1, sb2, sb3]
        refine wpZ_take 7 12 (u := ?_) rfl (by kernel_rfl) (fun _ _ _ h => h) ⟨by rfl, ?_⟩ hH0 ?_
        rotate_left
        · intro w hSw; (try dsimp only at hSw); go_simp; (first | done | with_reducible rfl)
        try simp only [Act.put, sb1, sb2, sb3]
        refine wpZ_only 8 rfl (by kernel_rfl) (by rfl) (fun K hK => ?_)
        go_simp
        go_at_call 146
        have hm8 := l07Make_any (w := w3.drew) (S := S) (g := g) (po := po) (oo := oo) (m := m.carried o) (o := o) (ps := m.on (gi o 2) (gi o 3)) (B := w3.heap.size) (HX3.out.keep fun _ _ => rfl) (fun j q => Nat.lt_of_lt_of_le (HS1.out j q) hz3) (HOP.out.keep (fun _ => by simp only [World.cell?]; rw [show (w3.drew).heap[po]? = _ from HP3.out]) (by simp only [World.cell?]; rw [show (w3.drew).heap[po]? = _ from HP3.out])) hpS (HO3.out.sl (Nat.le_refl _)) (Nat.le_refl _) (by omega) hlp
        refine hm8.mono ?_
        rintro e w8 ⟨rfl, hx8, hc8⟩
        have hp8 := (hc8.block po hpo3 hpS).trans HP3.out
        go_wp2_with fail
        refine hK.out _ _ ?_ (fun hH1 => ?_)
        · exact HKO.out _ hp8
        clear hK K hH0
        try simp only [Act.put, sb1, sb2, sb3]
        refine wpZ_only 9 rfl (by kernel_rfl) (by rfl) (fun K hK => ?_)
        go_simp
        refine hK.out _ _ ?_ (fun hH2 => ?_)
        · exact HKO.out _ ((Below.heap_alloc _ _ _ (Nat.lt_of_lt_of_le hpo3 hc8.size)).trans hp8)
        clear hK K hH1
        try simp only [Act.put, sb1, sb2, sb3]
        refine wpZ_last rfl (by kernel_rfl) (by kernel_rfl) (by rfl) (fun K hK => ?_)
        go_simp
        go_at_call 122
        have hS8 : ∀ j, Now (S) (w3.drew) w8 j → j < w8.heap.size := now_lt (fun j q => Nat.lt_of_lt_of_le (HS1.out j q) hz3) hc8.size
        have hs9 := l07Set_ndl (w := w8.alloc (.cells #[.int .i64 (m.carried o).n] 2)) (S := Now (S) (w3.drew) w8) (Su := fun k => w8.heap.size ≤ k ∧ k < (w8.alloc (.cells #[.int .i64 (m.carried o).n] 2)).heap.size) (g := g) (m := (m.carried o).made o (m.on (gi o 2) (gi o 3))) (bed := gi o 2) (a := gi o 3) (u := .slice (some ⟨w8.heap.size, 0, none⟩) 1 1) (ys := [(m.carried o).n]) (hx8.below hS8 (al1 w8 _)) (fun j q => by have := hS8 j q; simp; omega) HB1.out a1 (by exact HK1.out) (rw_of_ow (Ow.lit1 w8 _)) (fun j q => q.2) (fun j q1 q2 => by have := hS8 j q2; have := q1.1; omega)
        refine hs9.mono ?_
        rintro e w9 ⟨rfl, hx9, hc9⟩
        have HX9 := Lib.hid hx9
        have HC9 := Lib.hid hc9
        have HC8 := Lib.hid hc8
        clear hx9 hc9 hc8 hs9 hm8 hx8
        go_wp2_with fail
        refine hK.out _ _ ?_
        clear hK K hH2
        go_wp2_with fail
        go_ret
        rw [HC.out.1, HC.out.2]
        obtain ⟨x1, x2⟩ := mkset_end HC8.out HX9.out HC9.out
        refine ⟨rfl, fun _ => x1.mono fun j q => ?_, (HC3.out.below' (Below.refl _ _).drew).trans x2⟩
        rcases q with q | q
        · exact .inl q
        · exact .inr ⟨by have := q.1; have : w3.drew.heap.size = w3.heap.size := rfl; omega, q.2⟩
      · have e1 : (gi o 0 == 1) = false := by simp [h1]
        by_cases h2 : gi o 0 = 2
        · have e2 : (gi o 0 == 2) = true := by simp [h2]
          by_cases h4 : 4 ≤ (m.on (gi o 2) (gi o 3)).length
          · have e4 : (4 : Int) ≤ ↑(m.on (gi o 2) (gi o 3)).length := by omega
            have HC : Hid (formC m o = 5) := Lib.hid (by unfold formC; rw [if_neg (by rw [HCB.out]; decide), if_neg H3.out, if_neg h1, if_pos h2]; exact if_pos h4)
            clear h1 h2 h4
            go_wp2_with fail
            go_ret
            rw [HC.out]
            exact ⟨rfl, fun q => absurd q (by decide), HC3.out⟩
          · have e4 : ¬ (4 : Int) ≤ ↑(m.on (gi o 2) (gi o 3)).length := by omega
            have HC : Hid (formC m o = 0 ∧ formM m o = ((m.carried o).made o []).put (gi o 2) (gi o 3) (m.mine o ++ [m.n])) := Lib.hid (by unfold formC formM; rw [if_neg (by rw [HCB.out]; decide), if_neg H3.out, if_neg h1, if_pos h2, if_neg h1, if_pos h2]; exact ⟨if_neg h4, rfl⟩)
            clear h1 h2 h4
            go_wp2_with fail
            refine wp_region_z (fun w' => w'.cell? ⟨po, oo, none⟩ = some (.int .i64 (gi o 0)) ∧ w'.cell? ⟨po, oo + 2, none⟩ = some (.int .i64 (gi o 2)) ∧ w'.cell? ⟨po, oo + 2 + 1, none⟩ = some (.int .i64 (gi o 3))) 11 (by kernel_rfl) (HKO.out _ HP3.out) (fun hH0 => ?_)
            refine wpZ_take 0 13 (u := ?_) rfl (by kernel_rfl) (fun _ _ _ h => h) ⟨by rfl, ?_⟩ hH0 ?_
            rotate_left
            · intro w hSw; (try dsimp only at hSw); go_simp; (first | done | with_reducible rfl)
            try simp only [Act.put, sb1, sb2, sb3]
            refine wpZ_take 1 13 (u := ?_) rfl (by kernel_rfl) (fun _ _ _ h => h) ⟨by rfl, ?_⟩ hH0 ?_
            rotate_left
            · intro w hSw; (try dsimp only at hSw); go_simp; (first | done | with_reducible rfl)
            try simp only [Act.put, sb1, sb2, sb3]
            refine wpZ_take 2 13 (u := ?_) rfl (by kernel_rfl) (fun _ _ _ h => h) ⟨by rfl, ?_⟩ hH0 ?_
            rotate_left
            · intro w hSw; (try dsimp only at hSw); go_simp; (first | done | with_reducible rfl)
            try simp only [Act.put, sb1, sb2, sb3]
            refine wpZ_take 3 13 (u := ?_) rfl (by kernel_rfl) (fun _ _ _ h => h) ⟨by rfl, ?_⟩ hH0 ?_
            rotate_left
            · intro w hSw; (try dsimp only at hSw); go_simp; (first | done | with_reducible rfl)
            try simp only [Act.put, sb1, sb2, sb3]
            refine wpZ_take 4 13 (u := ?_) rfl (by kernel_rfl) (fun _ _ _ h => h) ⟨by rfl, ?_⟩ hH0 ?_
            rotate_left
            · intro w hSw; (try dsimp only at hSw); go_simp; (first | done | with_reducible rfl)
            try simp only [Act.put, sb1, sb2, sb3]
            refine wpZ_take 5 13 (u := ?_) rfl (by kernel_rfl) (fun _ _ _ h => h) ⟨by rfl, ?_⟩ hH0 ?_
            rotate_left
            · intro w hSw; (try dsimp only at hSw); go_simp; (first | done | with_reducible rfl)
            try simp only [Act.put, sb1, sb2, sb3]
            refine wpZ_take 6 13 (u := ?_) rfl (by kernel_rfl) (fun _ _ _ h => h) ⟨by rfl, ?_⟩ hH0 ?_
            rotate_left
            · intro w hSw; (try dsimp only at hSw); go_simp; (first | done | with_reducible rfl)
            try simp only [Act.put, sb1, sb2, sb3]
            refine wpZ_take 7 13 (u := ?_) rfl (by kernel_rfl) (fun _ _ _ h => h) ⟨by rfl, ?_⟩ hH0 ?_
            rotate_left
            · intro w hSw; (try dsimp only at hSw); go_simp; (first | done | with_reducible rfl)
            try simp only [Act.put, sb1, sb2, sb3]
            refine wpZ_only 8 rfl (by kernel_rfl) (by rfl) (fun K hK => ?_)
            go_simp
            go_at_call 146
            have hm8 := l07Make_any (w := w3.drew) (S := S) (g := g) (po := po) (oo := oo) (m := m.carried o) (o := o) (ps := []) (pv := .slice none 0 0) (B := 0) (HX3.out.keep fun _ _ => rfl) (fun j q => Nat.lt_of_lt_of_le (HS1.out j q) hz3) (HOP.out.keep (fun _ => by simp only [World.cell?]; rw [show (w3.drew).heap[po]? = _ from HP3.out]) (by simp only [World.cell?]; rw [show (w3.drew).heap[po]? = _ from HP3.out])) hpS (Sl.nil _ _) (Nat.zero_le _) (by simp) hlp
            refine hm8.mono ?_
            rintro e w8 ⟨rfl, hx8, hc8⟩
            have hp8 := (hc8.block po hpo3 hpS).trans HP3.out
            go_wp2_with fail
            refine hK.out _ _ ?_ (fun hH1 => ?_)
            · exact HKO.out _ hp8
            clear hK K hH0
            try simp only [Act.put, sb1, sb2, sb3]
            refine wpZ_only 9 rfl (by kernel_rfl) (by rfl) (fun K hK => ?_)
            go_simp
            refine hK.out _ _ ?_ (fun hH2 => ?_)
            · exact HKO.out _ ((Below.heap_alloc _ _ _ (Nat.lt_of_lt_of_le hpo3 hc8.size)).trans hp8)
            clear hK K hH1
            try simp only [Act.put, sb1, sb2, sb3]
            refine wpZ_only 10 rfl (by kernel_rfl) (by rfl) (fun K hK => ?_)
            have ho8 : Ow w8 w1.heap.size w3.heap.size (.slice A3 (m.on (gi o 2) (gi o 3)).length c3) (m.on (gi o 2) (gi o 3)) := HO3.out.keep fun k h1 h2 => hc8.block k h2 fun q => by have := HS1.out k q; omega
            have hz8 := hc8.size
            have hz8' : w3.heap.size ≤ w8.heap.size := hz8
            have ho9 := ho8.al hz8' (.cells #[.int .i64 m.n] 2)
            refine op_append_elem Tryz.underlying33 i64_info rfl (by decide) (by decide) _ _ rfl _ w1.heap.size w3.heap.size w8.heap.size (.slice A3 (m.on (gi o 2) (gi o 3)).length c3) (m.on (gi o 2) (gi o 3)).length (vals (m.on (gi o 2) (gi o 3))) [.int .i64 m.n] 2 rfl rfl (alloc_at_ w8 _) ho9 (by simp; omega) (by omega) rfl (by simp [Value.oneCell']) ?_
            intro v10 w10 hv10 hg10 hl10
            have hf10 : ∃ A10 c10, v10 = .slice A10 ((m.on (gi o 2) (gi o 3)).length + 1) c10 := by
              rcases hv10.form with ⟨-, h0, -⟩ | ⟨q, cap, e, -⟩
              · omega
              · exact ⟨_, cap, e⟩
            obtain ⟨A10, c10, rfl⟩ := hf10
            have hg10s := hg10.size
            simp at hg10s
            have hD10 : ∀ j, (Value.slice A10 ((m.on (gi o 2) (gi o 3)).length + 1) c10).ownBlock = some j → w1.heap.size ≤ j ∧ j < w10.heap.size ∧ ¬ Now S w3.drew w8 j := fun j q => by
              refine ⟨(hv10.1.lt j q).1, hv10.2 j q, fun q2 => ?_⟩
              rcases hl10 with e | e
              · rw [e] at q
                have h1 := (ho8.1.lt j q).1
                have h2 := ho8.2 j q
                rcases q2 with q2 | q2
                · have := HS1.out j q2; omega
                · have : w3.heap.size ≤ j := q2.1; omega
              · have h1 := e j q
                simp at h1
                rcases q2 with q2 | q2
                · have := HS1.out j q2; omega
                · have := q2.2; omega
            have hp10 := (hg10.block po (by simp; omega) fun e => by have := ho8.1.lt po e.symm; omega).trans ((Below.heap_alloc _ _ _ (Nat.lt_of_lt_of_le hpo3 hc8.size)).trans hp8)
            refine hK.out _ _ ?_ (fun hH3 => ?_)
            · exact HKO.out _ hp10
            clear hK K hH2
            try simp only [Act.put, sb1, sb2, sb3]
            refine wpZ_last rfl (by kernel_rfl) (by kernel_rfl) (by rfl) (fun K hK => ?_)
            go_simp
            go_at_call 122
            have hS8 : ∀ j, Now S w3.drew w8 j → j < w8.heap.size := now_lt (fun j q => Nat.lt_of_lt_of_le (HS1.out j q) hz3) hc8.size
            have hx10 : OwBox w10 (Now S w3.drew w8) g ((m.carried o).made o []) := hx8.keep fun k q => (hg10.block k (by have := hS8 k q; simp; omega) fun e => by
              have h1 := (ho8.1.lt k e.symm).1
              have h2 := ho8.2 k e.symm
              rcases q with q | q
              · have := HS1.out k q; omega
              · have : w3.heap.size ≤ k := q.1; omega).trans (Below.heap_alloc _ _ _ (hS8 k q))
            have hs9 := l07Set_ndl (w := w10) (S := Now S w3.drew w8) (Su := fun j => (Value.slice A10 ((m.on (gi o 2) (gi o 3)).length + 1) c10).ownBlock = some j) (g := g) (m := (m.carried o).made o []) (bed := gi o 2) (a := gi o 3) (u := .slice A10 ((m.on (gi o 2) (gi o 3)).length + 1) c10) (ys := m.on (gi o 2) (gi o 3) ++ [m.n]) hx10 (fun j q => by have := hS8 j q; omega) HB1.out a1 (by exact HK1.out) (rw_one hv10) (fun j q => (hD10 j q).2.1) (fun j q => (hD10 j q).2.2)
            refine hs9.mono ?_
            rintro e w11 ⟨rfl, hx11, hc11⟩
            have HX11 := Lib.hid hx11
            have HC11 := Lib.hid hc11
            have HC8 := Lib.hid hc8
            have HG10 := Lib.hid hg10
            have HD10 := Lib.hid hD10
            clear hx11 hc11 hc8 hs9 hm8 hx8 hg10 hD10 hx10 hv10 hl10 ho8 ho9
            go_wp2_with fail
            refine hK.out _ _ ?_
            clear hK K hH3
            go_wp2_with fail
            go_ret
            rw [HC.out.1, HC.out.2]
            have ez : w3.drew.heap.size = w3.heap.size := rfl
            have z8 := HC8.out.size
            have z10 := HG10.out.size
            simp at z10
            have z11 := HC11.out.size
            refine ⟨rfl, fun _ => HX11.out.mono fun j q => ?_, ?_⟩
            · rcases q with (q | q) | q
              · exact .inl q
              · exact .inr ⟨by have := q.1; omega, by have := q.2; omega⟩
              · exact .inr ⟨by have := (HD10.out j q).1; omega, by have := (HD10.out j q).2.1; omega⟩
            · have c10 : ChgS S w w10 := by
                have ca := ((HC3.out.below' (Below.refl _ _).drew).trans HC8.out).below' (al1 w8 (.cells #[.int .i64 m.n] 2))
                exact ⟨HG10.out.os.trans ca.os, HG10.out.tape.trans ca.tape, HG10.out.output.trans ca.output, Nat.le_trans ca.size HG10.out.size, fun k hk hn => (HG10.out.block k (Nat.lt_of_lt_of_le hk ca.size) fun e => by have := (HO3.out.2 k e.symm); have := HO3.out.1.lt k e.symm; omega).trans (ca.block k hk hn)⟩
              refine c10.then HC11.out fun j hj q => ?_
              rcases q with q | q
              · exact q
              · omega
        · have e2 : (gi o 0 == 2) = false := by simp [h2]
          have HMF := Lib.hid (MovF.mk (m := m.carried o) (o := o) (HF.out.ok.carried HCB.out HF.out.n1) HF.out.n1 (HF.out.n2 h1 h2))
          have HC : Hid (formC m o = moveC m o ∧ formM m o = (((m.carried o).moved o).made o (m.mine o)).put (gi o 2) (gi o 3) [m.n]) := Lib.hid (by unfold formC formM; rw [if_neg (by rw [HCB.out]; decide), if_neg H3.out, if_neg h1, if_neg h2, if_neg h1, if_neg h2]; exact ⟨rfl, rfl⟩)
          clear h1 h2
          have hmv := l07Move_any (w := w3) (po := po) (oo := oo) HX3.out (fun j q => Nat.lt_of_lt_of_le (HS1.out j q) hz3) (HOP.out.keep (fun _ => by simp only [World.cell?]; rw [HP3.out]) (by simp only [World.cell?]; rw [HP3.out])) hpS HMF.out
          have HMV := Lib.hid (show Calls Tryz.prog 119 #[.pointer (some ⟨g, 0, none⟩), .pointer (some ⟨po, oo, none⟩)] w3 fun e w' => e = .returned (.int .i64 (moveC m o)) ∧ OwBox w' (Now S w3 w') g (moveM (m.carried o) o) ∧ ChgS S w3 w' from hmv)
          clear hmv
          go_wp2_with fail
          refine HMV.out.mono ?_
          rintro e w4 ⟨rfl, hx4, hc4⟩
          have hz4 := hc4.size
          by_cases h0 : moveC m o = 0
          · have e0 : (moveC m o != 0) = false := by simp [h0]
            have hx4 : OwBox w4 (Now S w3 w4) g ((m.carried o).moved o) := by
              have e : moveM (m.carried o) o = (m.carried o).moved o := if_pos h0
              rwa [e] at hx4
            have HX4 := Lib.hid hx4
            have HP4 := Lib.hid ((hc4.block po hpo3 hpS).trans HP3.out)
            have HO4 := Lib.hid (HO3.out.keep fun k h1 h2 => hc4.block k h2 fun q => by have := HS1.out k q; omega)
            have HC4 := Lib.hid (HC3.out.trans hc4)
            have hS4 : ∀ j, Now S w3 w4 j → j < w4.heap.size := now_lt (fun j q => Nat.lt_of_lt_of_le (HS1.out j q) hz3) hz4
            have hp4 : ¬ Now S w3 w4 po := fun q => by
              rcases q with q | q
              · exact hpS q
              · omega
            have hpo4 : po < w4.heap.size := by omega
            have H0 := Lib.hid h0
            clear h0 hx4 hc4 q0 q2 q3
            obtain ⟨q0, q2, q3⟩ := HKO.out w4 HP4.out
            go_wp2_with fail
            refine wp_region_z (fun w' => w'.cell? ⟨po, oo, none⟩ = some (.int .i64 (gi o 0)) ∧ w'.cell? ⟨po, oo + 2, none⟩ = some (.int .i64 (gi o 2)) ∧ w'.cell? ⟨po, oo + 2 + 1, none⟩ = some (.int .i64 (gi o 3))) 10 (by kernel_rfl) (HKO.out _ HP4.out) (fun hH0 => ?_)
            refine wpZ_take 0 12 (u := ?_) rfl (by kernel_rfl) (fun _ _ _ h => h) ⟨by rfl, ?_⟩ hH0 ?_
            rotate_left
            · intro w hSw; (try dsimp only at hSw); go_simp; (first | done | with_reducible rfl)
            try simp only [Act.put, sb1, sb2, sb3]
            refine wpZ_take 1 12 (u := ?_) rfl (by kernel_rfl) (fun _ _ _ h => h) ⟨by rfl, ?_⟩ hH0 ?_
            rotate_left
            · intro w hSw; (try dsimp only at hSw); go_simp; (first | done | with_reducible rfl)
            try simp only [Act.put, sb1, sb2, sb3]
            refine wpZ_take 2 12 (u := ?_) rfl (by kernel_rfl) (fun _ _ _ h => h) ⟨by rfl, ?_⟩ hH0 ?_
            rotate_left
            · intro w hSw; (try dsimp only at hSw); go_simp; (first | done | with_reducible rfl)
            try simp only [Act.put, sb1, sb2, sb3]
            refine wpZ_take 3 12 (u := ?_) rfl (by kernel_rfl) (fun _ _ _ h => h) ⟨by rfl, ?_⟩ hH0 ?_
            rotate_left
            · intro w hSw; (try dsimp only at hSw); go_simp; (first | done | with_reducible rfl)
            try simp only [Act.put, sb1, sb2, sb3]
            refine wpZ_take 4 12 (u := ?_) rfl (by kernel_rfl) (fun _ _ _ h => h) ⟨by rfl, ?_⟩ hH0 ?_
            rotate_left
            · intro w hSw; (try dsimp only at hSw); go_simp; (first | done | with_reducible rfl)
            try simp only [Act.put, sb1, sb2, sb3]
            refine wpZ_take 5 12 (u := ?_) rfl (by kernel_rfl) (fun _ _ _ h => h) ⟨by rfl, ?_⟩ hH0 ?_
            rotate_left
            · intro w hSw; (try dsimp only at hSw); go_simp; (first | done | with_reducible rfl)
            try simp only [Act.put, sb1, sb2, sb3]
            refine wpZ_take 6 12 (u := ?_) rfl (by kernel_rfl) (fun _ _ _ h => h) ⟨by rfl, ?_⟩ hH0 ?_
            rotate_left
            · intro w hSw; (try dsimp only at hSw); go_simp; (first | done | with_reducible rfl)
            try simp only [Act.put, sb1, sb2, sb3]
            refine wpZ_take 7 12 (u := ?_) rfl (by kernel_rfl) (fun _ _ _ h => h) ⟨by rfl, ?_⟩ hH0 ?_
            rotate_left
            · intro w hSw; (try dsimp only at hSw); go_simp; (first | done | with_reducible rfl)
            try simp only [Act.put, sb1, sb2, sb3]
            refine wpZ_only 8 rfl (by kernel_rfl) (by rfl) (fun K hK => ?_)
            go_simp
            go_at_call 146
            have hm8 := l07Make_any (w := w4.drew) (S := Now S w3 w4) (g := g) (po := po) (oo := oo) (m := (m.carried o).moved o) (o := o) (ps := m.on (gi o 2) (gi o 3)) (B := w4.heap.size) (HX4.out.keep fun _ _ => rfl) (hS4) (HOP.out.keep (fun _ => by simp only [World.cell?]; rw [show (w4.drew).heap[po]? = _ from HP4.out]) (by simp only [World.cell?]; rw [show (w4.drew).heap[po]? = _ from HP4.out])) hp4 (HO4.out.sl (by omega)) (Nat.le_refl _) (by omega) (by rw [moved_lp]; exact hlp)
            refine hm8.mono ?_
            rintro e w8 ⟨rfl, hx8, hc8⟩
            have hp8 := (hc8.block po hpo4 hp4).trans HP4.out
            go_wp2_with fail
            refine hK.out _ _ ?_ (fun hH1 => ?_)
            · exact HKO.out _ hp8
            clear hK K hH0
            try simp only [Act.put, sb1, sb2, sb3]
            refine wpZ_only 9 rfl (by kernel_rfl) (by rfl) (fun K hK => ?_)
            go_simp
            refine hK.out _ _ ?_ (fun hH2 => ?_)
            · exact HKO.out _ ((Below.heap_alloc _ _ _ (Nat.lt_of_lt_of_le hpo4 hc8.size)).trans hp8)
            clear hK K hH1
            try simp only [Act.put, sb1, sb2, sb3]
            refine wpZ_last rfl (by kernel_rfl) (by kernel_rfl) (by rfl) (fun K hK => ?_)
            go_simp
            go_at_call 122
            have hS8 : ∀ j, Now (Now S w3 w4) (w4.drew) w8 j → j < w8.heap.size := now_lt (hS4) hc8.size
            have hs9 := l07Set_ndl (w := w8.alloc (.cells #[.int .i64 ((m.carried o).moved o).n] 2)) (S := Now (Now S w3 w4) (w4.drew) w8) (Su := fun k => w8.heap.size ≤ k ∧ k < (w8.alloc (.cells #[.int .i64 ((m.carried o).moved o).n] 2)).heap.size) (g := g) (m := ((m.carried o).moved o).made o (m.on (gi o 2) (gi o 3))) (bed := gi o 2) (a := gi o 3) (u := .slice (some ⟨w8.heap.size, 0, none⟩) 1 1) (ys := [((m.carried o).moved o).n]) (hx8.below hS8 (al1 w8 _)) (fun j q => by have := hS8 j q; simp; omega) HB1.out a1 (by exact (by rw [show ((((m.carried o).moved o).made o (m.on (gi o 2) (gi o 3))).sd (gi o 2)) = (((m.carried o).moved o).sd (gi o 2)) from rfl]; unfold Mac.moved; rw [put_sdlen, put_sdlen]; exact HK1.out)) (rw_of_ow (Ow.lit1 w8 _)) (fun j q => q.2) (fun j q1 q2 => by have := hS8 j q2; have := q1.1; omega)
            refine hs9.mono ?_
            rintro e w9 ⟨rfl, hx9, hc9⟩
            have HX9 := Lib.hid hx9
            have HC9 := Lib.hid hc9
            have HC8 := Lib.hid hc8
            clear hx9 hc9 hc8 hs9 hm8 hx8
            go_wp2_with fail
            refine hK.out _ _ ?_
            clear hK K hH2
            go_wp2_with fail
            go_ret
            rw [HC.out.1, HC.out.2, H0.out]
            obtain ⟨x1, x2⟩ := mkset_end HC8.out HX9.out HC9.out
            have en : ((m.carried o).moved o).n = m.n := by unfold Mac.n; rw [moved_lp]; rfl
            rw [en] at x1
            have ez : w4.drew.heap.size = w4.heap.size := rfl
            refine ⟨rfl, fun _ => x1.mono fun j q => ?_, (HC4.out.below' (Below.refl _ _).drew).then x2 fun j hj q => ?_⟩
            · rcases q with (q | q) | q
              · exact .inl q
              · exact .inr ⟨by have := q.1; omega, by have := q.2; have := HC8.out.size; have := HC9.out.size; simp at this; omega⟩
              · exact .inr ⟨by have := q.1; omega, q.2⟩
            · rcases q with q | q
              · exact q
              · omega
          · have e0 : (moveC m o != 0) = true := by simp [h0]
            have H0 := Lib.hid h0
            have HC4 := Lib.hid (HC3.out.trans hc4)
            clear h0 hx4 hc4
            go_wp2_with fail
            go_ret
            rw [HC.out.1]
            exact ⟨rfl, fun q => absurd q H0.out, HC4.out⟩
end Go.Proofs.YtgmppfhokfifgaaGreatDoor
/-
  Contract: the reference's l00Put (a number put to its place among rising ones, once).
-/
namespace Go.Proofs.YtgmppfhokfifgaaGreatDoor
set_option maxRecDepth 10000
open Go.RowKit

def pstep (n : Int) (s : List Int × Bool) (x : Int) : List Int × Bool := if s.2 = false ∧ n ≤ x then ((if n < x then s.1 ++ [n] else s.1) ++ [x], true) else (s.1 ++ [x], s.2)
def pfin (n : Int) (s : List Int × Bool) : List Int := if s.2 then s.1 else s.1 ++ [n]
theorem pfold_true (n : Int) (o xs : List Int) : xs.foldl (pstep n) (o, true) = (o ++ xs, true) := by
  induction xs generalizing o with
  | nil => simp
  | cons a t ih => rw [List.foldl_cons, show pstep n (o, true) a = (o ++ [a], true) by simp [pstep], ih]; simp
theorem pfold (n : Int) (o xs : List Int) : pfin n (xs.foldl (pstep n) (o, false)) = o ++ putI xs n := by
  induction xs generalizing o with
  | nil => simp [pfin, putI]
  | cons a t ih =>
    rw [List.foldl_cons]
    by_cases h : n ≤ a
    · by_cases h2 : n < a
      · rw [show pstep n (o, false) a = (o ++ [n] ++ [a], true) by simp [pstep, h, h2], pfold_true]
        simp [pfin, putI, h2]
      · have e : a = n := by omega
        rw [show pstep n (o, false) a = (o ++ [a], true) by simp [pstep, h, h2], pfold_true]
        simp [pfin, putI, e]
    · rw [show pstep n (o, false) a = (o ++ [a], false) by simp [pstep, h], ih]
      have h2 : ¬ n < a := by omega
      have h3 : ¬ a = n := by omega
      simp [putI, h2, h3]
def pst (n : Int) (xs : List Int) (k : Nat) : List Int × Bool := (xs.take k).foldl (pstep n) ([], false)
theorem pst_zero (n : Int) (xs : List Int) : pst n xs 0 = ([], false) := by simp [pst]
theorem pst_succ (n : Int) {xs : List Int} {k : Nat} (h : k < xs.length) : pst n xs (k + 1) = pstep n (pst n xs k) (gi xs k) := by unfold pst; rw [take_gi h, List.foldl_append]; rfl
theorem pst_all (n : Int) (xs : List Int) : pfin n (pst n xs xs.length) = putI xs n := by unfold pst; rw [List.take_length, pfold]; simp
theorem pst_len (n : Int) (xs : List Int) (k : Nat) (h : k ≤ xs.length) : (pst n xs k).1.length ≤ 2 * k := by
  induction k with
  | zero => simp [pst_zero]
  | succ k ih =>
    have := ih (by omega)
    rw [pst_succ n (by omega)]
    unfold pstep
    split
    · split <;> simp <;> omega
    · simp; omega
set_option maxHeartbeats 3200000 in
theorem l00Put_any (v : Value) (xs : List Int) (n : Int) (B : Nat) (w : World) (h : Sl w B v xs) (hB : B ≤ w.heap.size) (hsz : xs.length ≤ 1000000) :
    Calls Tryz.prog 121 #[v, .int .i64 n] w fun e w' => ∃ r, e = .returned r ∧ Ow w' w.heap.size w'.heap.size r (putI xs n) ∧ Below w.heap.size w w' := by
  obtain ⟨A, c, rfl, hl, hm, -, hcells⟩ := id h
  unfold maxLen at hm
  have HC := Lib.hid hcells
  have hO0 := Ow.empty w
  have hb0 := al1 w (.cells #[] 2)
  clear hcells h
  go_enter Tryz.func121, Tryz.ntmps121
  go_wp2
  go_loopw [5, 6, 7] (fun o d i wr => ∃ k : Nat, k ≤ xs.length ∧ i = .int .i64 k ∧ d = .bool (pst n xs k).2 ∧ Ow wr w.heap.size wr.heap.size o (pst n xs k).1 ∧ Below w.heap.size w wr) (fun _ _ i _ => xs.length - (intOf i).toNat)
  case atStart => exact ⟨0, Nat.zero_le _, rfl, by rw [pst_zero], by rw [pst_zero]; exact hO0, hb0⟩
  case round =>
    obtain ⟨k, hk, rfl, rfl, hO, hb⟩ := hrel
    clear hO0 hb0
    have hz := hb.size
    have HB := Lib.hid hb
    have hpl := pst_len n xs k hk
    have hpl2 : (pst n xs k).1.length ≤ 100000000 := by omega
    clear hb hpl
    by_cases hlt : k < xs.length
    · obtain ⟨b, off, rfl, hbB, hcell⟩ := HC.out (by omega)
      have q1 : wr.cell? ⟨b, off + k, none⟩ = some (.int .i64 (gi xs k)) := by rw [HB.out.cell (by simp only; omega)]; exact hcell k hlt
      have HS := Lib.hid (pst_succ n hlt)
      have hbw : b < wr.heap.size := by omega
      clear hcell
      generalize gi xs k = x at *
      obtain ⟨st, hst⟩ : ∃ st, st = pst n xs k := ⟨_, rfl⟩
      rw [← hst] at HS hO hpl2 ⊢
      clear hst
      obtain ⟨acc, d⟩ := st
      simp only at hO hpl2 ⊢
      cases d
      · by_cases h1 : n ≤ x
        · have hge : x ≥ n := h1
          by_cases h2 : n < x
          · have HT := Lib.hid (HS.out.trans (show pstep n (acc, false) x = (acc ++ [n] ++ [x], true) by simp [pstep, h1, h2]))
            have hgt : x > n := h2
            go_wp2_with (first | (at_builtin; refine wpList_append_one rfl _ _ rfl _ _ _ _ acc n rfl rfl hO hz (by omega) ?_; intro v1 w1 hO1 hg1 _; have hb1 := Below.trans HB.out (hO.grown hg1 (Nat.le_refl _) hz); have HB1 := Lib.hid hb1; have HO1 := Lib.hid hO1; have hz1 := hb1.size; have q2 : w1.cell? ⟨b, off + k, none⟩ = some (.int .i64 x) := (by rw [hb1.cell (by simp only; omega), ← HB.out.cell (by simp only; omega)]; exact q1); have hbw1 : b < w1.heap.size := (by omega); clear hO1 hg1 hb1) | (at_builtin; refine wpList_append_one rfl _ _ rfl _ _ _ _ (acc ++ [n]) x rfl rfl HO1.out hz1 (by simp; omega) ?_; intro v2 w2 hO2 hg2 _; have hb2 := Below.trans HB1.out (HO1.out.grown hg2 (Nat.le_refl _) hz1)))
            go_roundw
            case rel => exact ⟨k + 1, by omega, by go_num, by rw [HT.out], by rw [HT.out]; exact hO2, hb2⟩
            case measure => simp [intOf]; omega
          · have HT := Lib.hid (HS.out.trans (show pstep n (acc, false) x = (acc ++ [x], true) by simp [pstep, h1, h2]))
            have hgt : ¬ x > n := h2
            go_wp2_with (at_builtin; refine wpList_append_one rfl _ _ rfl _ _ _ _ acc x rfl rfl hO hz (by omega) ?_; intro v2 w2 hO2 hg2 _; have hb2 := Below.trans HB.out (hO.grown hg2 (Nat.le_refl _) hz))
            go_roundw
            case rel => exact ⟨k + 1, by omega, by go_num, by rw [HT.out], by rw [HT.out]; exact hO2, hb2⟩
            case measure => simp [intOf]; omega
        · have hge : ¬ x ≥ n := h1
          have HT := Lib.hid (HS.out.trans (show pstep n (acc, false) x = (acc ++ [x], false) by simp [pstep, h1]))
          go_wp2_with (at_builtin; refine wpList_append_one rfl _ _ rfl _ _ _ _ acc x rfl rfl hO hz (by omega) ?_; intro v2 w2 hO2 hg2 _; have hb2 := Below.trans HB.out (hO.grown hg2 (Nat.le_refl _) hz))
          go_roundw
          case rel => exact ⟨k + 1, by omega, by go_num, by rw [HT.out], by rw [HT.out]; exact hO2, hb2⟩
          case measure => simp [intOf]; omega
      · have HT := Lib.hid (HS.out.trans (show pstep n (acc, true) x = (acc ++ [x], true) by simp [pstep]))
        go_wp2_with (at_builtin; refine wpList_append_one rfl _ _ rfl _ _ _ _ acc x rfl rfl hO hz (by omega) ?_; intro v2 w2 hO2 hg2 _; have hb2 := Below.trans HB.out (hO.grown hg2 (Nat.le_refl _) hz))
        go_roundw
        case rel => exact ⟨k + 1, by omega, by go_num, by rw [HT.out], by rw [HT.out]; exact hO2, hb2⟩
        case measure => simp [intOf]; omega
    · obtain rfl : k = xs.length := by omega
      have HF := Lib.hid (pst_all n xs)
      obtain ⟨st, hst⟩ : ∃ st, st = pst n xs xs.length := ⟨_, rfl⟩
      rw [← hst] at HF hO hpl2 ⊢
      clear hst
      obtain ⟨acc, d⟩ := st
      simp only at hO hpl2 ⊢
      cases d
      · have HT := Lib.hid (HF.out.symm.trans (show pfin n (acc, false) = acc ++ [n] by simp [pfin]))
        go_wp2_with (at_builtin; refine wpList_append_one rfl _ _ rfl _ _ _ _ acc n rfl rfl hO hz (by omega) ?_; intro v2 w2 hO2 hg2 _; have hb2 := Below.trans HB.out (hO.grown hg2 (Nat.le_refl _) hz))
        go_ret
        exact ⟨_, rfl, by rw [HT.out]; exact hO2, hb2⟩
      · have HT := Lib.hid (HF.out.symm.trans (show pfin n (acc, true) = acc by simp [pfin]))
        go_wp2_with fail
        go_ret
        exact ⟨_, rfl, by rw [HT.out]; exact hO, HB.out⟩
end Go.Proofs.YtgmppfhokfifgaaGreatDoor
/-
  Contract: the reference's l07Do (on a machine in a box). The drawn region is printed by gen_msg.py.
-/
namespace Go.Proofs.YtgmppfhokfifgaaGreatDoor
set_option maxRecDepth 10000
open Go.RowKit

theorem putAll_len (dr xs : List Int) : (putAll dr xs).length ≤ dr.length + xs.length := by
  unfold putAll
  induction xs generalizing dr with
  | nil => simp
  | cons a l ih =>
    have := ih (putI dr a)
    have := putI_len dr a
    simp only [List.foldl_cons, List.length_cons]
    omega
theorem putAll_take (dr xs : List Int) {k : Nat} (hk : k < xs.length) : putAll dr (xs.take (k + 1)) = putI (putAll dr (xs.take k)) (gi xs k) := by
  unfold putAll
  have e : xs.take (k + 1) = xs.take k ++ [gi xs k] := by
    rw [List.take_add_one, List.getElem?_eq_getElem hk]
    simp [gi, List.getD_eq_getElem?_getD, List.getElem?_eq_getElem hk]
  rw [e, List.foldl_append]
  rfl
theorem rising_len : ∀ (l : List Int) (a N : Int), l.Pairwise (· < ·) → (∀ x ∈ l, a ≤ x ∧ x < N) → l = [] ∨ a + l.length ≤ N
  | [], _, _, _, _ => .inl rfl
  | x :: l, a, N, h, hm => by
    rw [List.pairwise_cons] at h
    have h1 := hm x (by simp)
    rcases rising_len l (x + 1) N h.2 (fun y hy => ⟨by have := h.1 y hy; omega, (hm y (by simp [hy])).2⟩) with e | e
    · subst e; right; simp; omega
    · right; simp only [List.length_cons]; omega
theorem OkM.drLen {m : Mac} (h : OkM m) : m.dr.length ≤ 300 := by
  have hl := h.lp
  rcases rising_len m.dr 0 m.lp.length h.dr (fun x hx => h.rng x (by simp only [allM, List.mem_append]; exact .inr hx)) with e | e
  · simp [e]
  · omega
theorem OwBox.onR {w : World} {S : Nat → Prop} {g : Nat} {m : Mac} (h : OwBox w S g m) (hS : ∀ j, S j → j < w.heap.size) {bed a : Int} (hb : bed = 1 ∨ bed = 2) (h0 : 0 ≤ a) (hk : a.toNat < (m.sd bed).length) :
    ∃ A c, ∃ S2 : Nat → Prop, (rw_ (.slice A (m.on bed a).length c) (m.on bed a)).p w S2 ∧ (∀ j, S2 j → S j) ∧ ¬ S2 g ∧ ∀ w', Below w.heap.size w w' → Calls Tryz.prog 120 #[.pointer (some ⟨g, 0, none⟩), .agg #[.int .i64 bed, .int .i64 a]] w' fun e w2 => e = .returned (.slice A (m.on bed a).length c) ∧ Below w'.heap.size w' w2 := by
  obtain ⟨f, b, c, l, d, p, n, cap, u, S2, hx, e1, kn, hc, -, hr, s2, -, -, sg, s2g, -⟩ := h.row bed a.toNat hk hS
  have hsl := rw_sl hr fun j q => hS j (s2 j q)
  obtain ⟨A, cc, rfl, -⟩ := id hsl
  refine ⟨A, cc, S2, hr, s2, s2g, fun w' hb' => ?_⟩
  have := l07On_any (bed := bed) (k := a.toNat) (o := 0) (keep_fwd hb' hx) hb kn e1 (by rw [Nat.zero_add]; exact (hb'.cell (block_lt_of_cell hc)).trans hc)
  rwa [Int.toNat_of_nonneg h0] at this
/-- One more loop is dropped. -/
theorem OwBox.drop1 {w : World} {S : Nat → Prop} {g : Nat} {m : Mac} (h : OwBox w S g m) (hS : ∀ j, S j → j < w.heap.size) :
    ∃ f b c l A n cd, w.heap[g]? = some (.cells #[.int .i64 m.wd, .int .i64 m.rk, f, b, c, l, .slice A n cd] 75) ∧ Sl w w.heap.size (.slice A n cd) m.dr ∧ S g ∧
      ∀ (d' : Value) (ds : List Int) (w' : World), Ow w' w.heap.size w'.heap.size d' ds → Below w.heap.size w w' → OwBox (w'.setCell ⟨g, 6, none⟩ d') (Now S w (w'.setCell ⟨g, 6, none⟩ d')) g { m with dr := ds } := by
  obtain ⟨f, b, c, l, d, S2, hx, hr, s2, sg, s2g, put⟩ := h.drop hS
  have hsl := rw_sl hr fun j q => hS j (s2 j q)
  obtain ⟨A, cc, rfl, -⟩ := id hsl
  refine ⟨f, b, c, l, A, _, cc, hx, hsl, sg, fun d' ds w' ho hb => ?_⟩
  refine (put d' ds w' (fun k => w.heap.size ≤ k ∧ k < w'.heap.size) (rw_of_ow ho) (fun j q1 q2 => absurd (hS j q2) (by omega)) (ChgS.of_below hb)).mono fun j q => ?_
  rcases q with q | q
  · exact .inl q
  · exact .inr ⟨q.1, by simp only [World.setCell, Array.size_modify]; exact q.2⟩
/-- What an operation asks of the machine. -/
theorem OpOk.frm {m : Mac} (h : OkM m) {o : List Int} (ho : OpOk m o) (hk : gi o 0 = 1 ∨ gi o 0 = 2 ∨ gi o 0 = 5) : FrmF m o := by
  have f1 := ho.f1
  have f2 := ho.f2
  rcases op_form ho.op with ⟨q, hd, hb, ha, c1, c2⟩ | ⟨q, -⟩ | ⟨q, hb, ha, hb2, ha2, -, hd, c1, c2⟩ | ⟨q, -⟩ | ⟨q, -⟩ | ⟨q, -⟩ | ⟨q, -⟩
  · exact ⟨h, hd, ⟨hb, ha, f1⟩, fun _ _ => by omega, c1, c2⟩
  · omega
  · exact ⟨h, hd, ⟨hb, ha, f1⟩, fun _ _ => ⟨hb2, ha2, f2⟩, c1, c2⟩
  all_goals omega
theorem OpOk.car {m : Mac} (h : OkM m) {o : List Int} (ho : OpOk m o) (hk : gi o 0 = 3) : CarF m o := by
  have f1 := ho.f1
  have hw := h.wd
  rcases op_form ho.op with ⟨q, hd, hb, ha, c1, c2⟩ | ⟨q, -⟩ | ⟨q, -⟩ | ⟨q, -⟩ | ⟨q, -⟩ | ⟨q, -⟩ | ⟨q, -⟩
  · exact ⟨h, hd, hb, ha, by omega, c1, c2⟩
  all_goals omega
theorem OpOk.mov {m : Mac} (h : OkM m) {o : List Int} (ho : OpOk m o) (hk : gi o 0 = 4) : MovF m o := by
  have f1 := ho.f1
  have f2 := ho.f2
  rcases op_form ho.op with ⟨q, -⟩ | ⟨q, hb, ha, hb2, ha2, -⟩ | ⟨q, -⟩ | ⟨q, -⟩ | ⟨q, -⟩ | ⟨q, -⟩ | ⟨q, -⟩
  · omega
  · exact ⟨h, ⟨hb, ha, f1⟩, ⟨hb2, ha2, f2⟩⟩
  all_goals omega
theorem OpOk.drp {m : Mac} {o : List Int} (ho : OpOk m o) (hk : gi o 0 = 6) : m.ndl (gi o 2) (gi o 3) := by
  have f1 := ho.f1
  rcases op_form ho.op with ⟨q, -⟩ | ⟨q, -⟩ | ⟨q, -⟩ | ⟨q, hb, ha⟩ | ⟨q, -⟩ | ⟨q, -⟩ | ⟨q, -⟩
  · omega
  · omega
  · omega
  · exact ⟨hb, ha, f1⟩
  all_goals omega
theorem OpOk.oth {m : Mac} {o : List Int} (ho : OpOk m o) (h1 : gi o 0 ≠ 1) (h2 : gi o 0 ≠ 2) (h3 : gi o 0 ≠ 3) (h4 : gi o 0 ≠ 4) (h5 : gi o 0 ≠ 5) (h6 : gi o 0 ≠ 6) (h7 : gi o 0 ≠ 7) : 1 ≤ gi o 6 ∧ gi o 6 ≤ 4 := by
  rcases op_form ho.op with ⟨q, -⟩ | ⟨q, -⟩ | ⟨q, -⟩ | ⟨q, -⟩ | ⟨q, -⟩ | ⟨q, -, c1, c2⟩ | ⟨q, c1, c2⟩
  all_goals omega
theorem do_frm {m : Mac} {o : List Int} (hk : gi o 0 = 1 ∨ gi o 0 = 2 ∨ gi o 0 = 5) : codeM m o = formC m o ∧ stepM m o = formM m o := by
  unfold codeM stepM formC formM
  rcases hk with hk | hk | hk <;> simp [hk]
theorem do_car {m : Mac} {o : List Int} (hk : gi o 0 = 3) : codeM m o = (if carryB m o = false then 9 else 0) ∧ stepM m o = m.carried o := by
  unfold codeM stepM
  simp [hk]
theorem do_mov {m : Mac} {o : List Int} (hk : gi o 0 = 4) : codeM m o = moveC m o ∧ stepM m o = m.moved o := by
  unfold codeM stepM
  simp [hk]
theorem do_drp {m : Mac} {o : List Int} (hk : gi o 0 = 6) : codeM m o = (if (m.mine o).length = 0 then 7 else 0) ∧ stepM m o = ({ m with dr := putAll m.dr (m.mine o) } : Mac).put (gi o 2) (gi o 3) [] := by
  unfold codeM stepM
  simp [hk]
theorem do_rk {m : Mac} {o : List Int} (hk : gi o 0 = 7) : codeM m o = 0 ∧ stepM m o = { m with rk := gi o 7 } := by
  unfold codeM stepM
  simp [hk]
theorem do_in {m : Mac} {o : List Int} (h1 : gi o 0 ≠ 1) (h2 : gi o 0 ≠ 2) (h3 : gi o 0 ≠ 3) (h4 : gi o 0 ≠ 4) (h5 : gi o 0 ≠ 5) (h6 : gi o 0 ≠ 6) (h7 : gi o 0 ≠ 7) : codeM m o = inC m o ∧ (codeM m o = 0 → stepM m o = inM m o) := by
  have e : codeM m o = inC m o := by unfold codeM inC; simp [h1, h2, h3, h4, h5, h6, h7]
  refine ⟨e, fun q => ?_⟩
  have hne : ¬ (m.car o).1 = decide (gi o 0 = 8) := fun c => by rw [e] at q; unfold inC at q; rw [if_pos c] at q; omega
  unfold stepM inM
  rw [if_neg h1, if_neg h2, if_neg h5, if_neg h3, if_neg h4, if_neg h6, if_neg h7, if_neg hne]
set_option maxRecDepth 100000 in
set_option maxHeartbeats 3200000 in
theorem l07Do_any {w : World} {S : Nat → Prop} {g po oo : Nat} {m : Mac} {o : List Int} (h : OwBox w S g m) (hS : ∀ j, S j → j < w.heap.size) (hop : OpL w po oo o) (hpS : ¬ S po) (hok : OkM m) (ho : OpOk m o) :
    Calls Tryz.prog 82 #[.pointer (some ⟨g, 0, none⟩), .pointer (some ⟨po, oo, none⟩)] w fun e w' => e = .returned (.int .i64 (codeM m o)) ∧ (codeM m o = 0 → OwBox w' (Now S w w') g (stepM m o)) ∧ ChgS S w w' := by
  have hpo := hop.lt
  have q0 := hop.c0
  have q2 := hop.c2
  have q3 : w.cell? ⟨po, oo + 2 + 1, none⟩ = _ := hop.c3
  have q7 : w.cell? ⟨po, oo + 7, none⟩ = _ := hop.c7
  have HH := Lib.hid h
  have HS := Lib.hid hS
  have HOP := Lib.hid hop
  have HOK := Lib.hid hok
  have HO := Lib.hid ho
  clear h hS hop hok ho
  by_cases h1 : gi o 0 = 1
  · have hk := h1
    have e1 : (gi o 0 == 1) = true := by simp [hk]
    clear h1
    have HD := Lib.hid (do_frm (m := m) (o := o) (by omega))
    have HF := Lib.hid (l07Form_any HH.out HS.out HOP.out hpS (HO.out.frm HOK.out (by omega)))
    clear hk
    go_enter Tryz.func82, Tryz.ntmps82
    go_wp2_with fail
    refine HF.out.mono ?_
    rintro e w1 ⟨rfl, hx1, hc1⟩
    have HX1 := Lib.hid hx1
    have HC1 := Lib.hid hc1
    clear hx1 hc1
    go_wp2_with fail
    go_ret
    rw [HD.out.1, HD.out.2]
    exact ⟨rfl, HX1.out, HC1.out⟩
  · skip
    by_cases h2 : gi o 0 = 2
    · have hk := h2
      have e1 : (gi o 0 == 1) = false := by simp [h1]
      have e2 : (gi o 0 == 2) = true := by simp [hk]
      clear h1 h2
      have HD := Lib.hid (do_frm (m := m) (o := o) (by omega))
      have HF := Lib.hid (l07Form_any HH.out HS.out HOP.out hpS (HO.out.frm HOK.out (by omega)))
      clear hk
      go_enter Tryz.func82, Tryz.ntmps82
      go_wp2_with fail
      refine HF.out.mono ?_
      rintro e w1 ⟨rfl, hx1, hc1⟩
      have HX1 := Lib.hid hx1
      have HC1 := Lib.hid hc1
      clear hx1 hc1
      go_wp2_with fail
      go_ret
      rw [HD.out.1, HD.out.2]
      exact ⟨rfl, HX1.out, HC1.out⟩
    · skip
      by_cases h5 : gi o 0 = 5
      · have hk := h5
        have e1 : (gi o 0 == 1) = false := by simp [h1]
        have e2 : (gi o 0 == 2) = false := by simp [h2]
        have e5 : (gi o 0 == 5) = true := by simp [hk]
        clear h1 h2 h5
        have HD := Lib.hid (do_frm (m := m) (o := o) (by omega))
        have HF := Lib.hid (l07Form_any HH.out HS.out HOP.out hpS (HO.out.frm HOK.out (by omega)))
        clear hk
        go_enter Tryz.func82, Tryz.ntmps82
        go_wp2_with fail
        refine HF.out.mono ?_
        rintro e w1 ⟨rfl, hx1, hc1⟩
        have HX1 := Lib.hid hx1
        have HC1 := Lib.hid hc1
        clear hx1 hc1
        go_wp2_with fail
        go_ret
        rw [HD.out.1, HD.out.2]
        exact ⟨rfl, HX1.out, HC1.out⟩
      · skip
        by_cases h3 : gi o 0 = 3
        · have hk := h3
          have e1 : (gi o 0 == 1) = false := by simp [h1]
          have e2 : (gi o 0 == 2) = false := by simp [h2]
          have e5 : (gi o 0 == 5) = false := by simp [h5]
          have e3 : (gi o 0 == 3) = true := by simp [hk]
          clear h1 h2 h5 h3
          have HD := Lib.hid (do_car (m := m) (o := o) hk)
          have HF := Lib.hid (l07Carry_any HH.out HS.out HOP.out hpS (HO.out.car HOK.out hk))
          clear hk
          go_enter Tryz.func82, Tryz.ntmps82
          go_wp2_with fail
          refine HF.out.mono ?_
          rintro e w1 ⟨rfl, hx1, hc1⟩
          have HX1 := Lib.hid hx1
          have HC1 := Lib.hid hc1
          clear hx1 hc1
          cases hcb : carryB m o
          · have HCB := Lib.hid hcb
            clear hcb
            go_wp2_with fail
            go_ret
            rw [HD.out.1, HCB.out]
            exact ⟨rfl, fun q => absurd q (by decide), HC1.out⟩
          · have HCB := Lib.hid hcb
            clear hcb
            go_wp2_with fail
            go_ret
            rw [HD.out.1, HD.out.2, HCB.out]
            exact ⟨rfl, fun _ => by have := HX1.out; rw [doneC_yes HCB.out] at this; exact this.mono fun j q => .inl q, HC1.out⟩
        · skip
          by_cases h4 : gi o 0 = 4
          · have hk := h4
            have e1 : (gi o 0 == 1) = false := by simp [h1]
            have e2 : (gi o 0 == 2) = false := by simp [h2]
            have e5 : (gi o 0 == 5) = false := by simp [h5]
            have e3 : (gi o 0 == 3) = false := by simp [h3]
            have e4 : (gi o 0 == 4) = true := by simp [hk]
            clear h1 h2 h5 h3 h4
            have HD := Lib.hid (do_mov (m := m) (o := o) hk)
            have HF := Lib.hid (l07Move_any HH.out HS.out HOP.out hpS (HO.out.mov HOK.out hk))
            clear hk
            go_enter Tryz.func82, Tryz.ntmps82
            go_wp2_with fail
            refine HF.out.mono ?_
            rintro e w1 ⟨rfl, hx1, hc1⟩
            have HX1 := Lib.hid hx1
            have HC1 := Lib.hid hc1
            clear hx1 hc1
            go_wp2_with fail
            go_ret
            rw [HD.out.1, HD.out.2]
            exact ⟨rfl, fun q => by have := HX1.out; unfold moveM at this; rwa [if_pos q] at this, HC1.out⟩
          · skip
            by_cases h6 : gi o 0 = 6
            · have hk := h6
              have e1 : (gi o 0 == 1) = false := by simp [h1]
              have e2 : (gi o 0 == 2) = false := by simp [h2]
              have e5 : (gi o 0 == 5) = false := by simp [h5]
              have e3 : (gi o 0 == 3) = false := by simp [h3]
              have e4 : (gi o 0 == 4) = false := by simp [h4]
              have e6 : (gi o 0 == 6) = true := by simp [hk]
              clear h1 h2 h5 h3 h4 h6
              have HD := Lib.hid (do_drp (m := m) (o := o) hk)
              have hnd := HO.out.drp hk
              have HK1 := Lib.hid (HOK.out.sdlt hnd)
              obtain ⟨b1, a1, a1'⟩ := hnd
              have hdl := HOK.out.drLen
              have hln := HOK.out.onLen (gi o 2) (gi o 3)
              obtain ⟨A1, c1, S2, hr, s2, s2g, hon⟩ := HH.out.onR HS.out b1 a1 HK1.out
              have sg : S g := HH.out.rkc.2
              have hgl := HS.out g sg
              have hpg : po ≠ g := fun e => hpS (e ▸ sg)
              have HON := Lib.hid hon
              have HB1 := Lib.hid b1
              have hsl := rw_sl (B := w.heap.size) hr fun j q => HS.out j (s2 j q)
              have HOB := Lib.hid (fun j (q : (Value.slice A1 (m.on (gi o 2) (gi o 3)).length c1).ownBlock = some j) => show S2 j from hr.2 j q)
              clear hk hr hon b1
              go_enter Tryz.func82, Tryz.ntmps82
              go_wp2_with fail
              refine (HON.out w (Below.refl _ _)).mono ?_
              rintro e w1 ⟨rfl, hb1⟩
              have HBW1 := Lib.hid hb1
              clear hb1 HON
              by_cases h0 : (m.on (gi o 2) (gi o 3)).length = 0
              · have e0 : ((↑(m.on (gi o 2) (gi o 3)).length : Int) == 0) = true := by simp only [h0]; rfl
                have HC : Hid (codeM m o = 7) := Lib.hid (by rw [HD.out.1]; exact if_pos h0)
                clear h0 hsl
                go_wp2_with fail
                go_ret
                rw [HC.out]
                exact ⟨rfl, fun q => absurd q (by decide), ChgS.of_below HBW1.out⟩
              · have e0 : ((↑(m.on (gi o 2) (gi o 3)).length : Int) == 0) = false := by simp only [beq_eq_false_iff_ne, ne_eq]; omega
                have HC : Hid (codeM m o = 0) := Lib.hid (by rw [HD.out.1]; exact if_neg h0)
                obtain ⟨A', c', e', -, -, -, hcell⟩ := hsl
                injection e' with e1' e2' e3'
                subst e1' e3'
                obtain ⟨bl, ol, rfl, hbl, hcl⟩ := hcell (by omega)
                have hbS : S2 bl := HOB.out bl rfl
                have hbg : bl ≠ g := fun e => s2g (e ▸ hbS)
                have HLW := Lib.hid hcl
                clear h0 hcell hcl HOB
                go_wp2_with fail
                go_loopw [6] (fun i wr => ∃ k : Nat, k ≤ (m.on (gi o 2) (gi o 3)).length ∧ i = .int .i64 k ∧ OwBox wr (Now S w wr) g { m with dr := putAll m.dr ((m.on (gi o 2) (gi o 3)).take k) } ∧ ChgS (fun j => j = g) w wr) (fun i _ => (m.on (gi o 2) (gi o 3)).length - (intOf i).toNat)
                case atStart => exact ⟨0, Nat.zero_le _, rfl, (show OwBox w1 (Now S w w1) g m from (HH.out.below HS.out HBW1.out).mono fun j q => .inl q), ChgS.of_below HBW1.out⟩
                case round =>
                  obtain ⟨k, hk, rfl, hx, hc⟩ := hrel
                  have hz := hc.size
                  have hp := hc.block po hpo hpg
                  clear q0 q2 q3 q7
                  have q2 : wr.cell? ⟨po, oo + 2, none⟩ = some (.int .i64 (gi o 2)) := by simp only [World.cell?, hp]; exact HOP.out.c2
                  have q3 : wr.cell? ⟨po, oo + 2 + 1, none⟩ = some (.int .i64 (gi o 3)) := by simp only [World.cell?, hp]; exact HOP.out.c3
                  have HCG := Lib.hid hc
                  clear hc hp
                  by_cases hlt : k < (m.on (gi o 2) (gi o 3)).length
                  · obtain ⟨f, b, c, l, Ad, nd, cd, hgx, hsl, -, hput⟩ := hx.drop1 (now_lt HS.out hz)
                    have HGX := Lib.hid (show wr.heap[g]? = some (.cells #[.int .i64 m.wd, .int .i64 m.rk, f, b, c, l, .slice Ad nd cd] 75) from hgx)
                    have HSLD := Lib.hid (show Sl wr wr.heap.size (.slice Ad nd cd) (putAll m.dr ((m.on (gi o 2) (gi o 3)).take k)) from hsl)
                    have HPUT := Lib.hid hput
                    have HDL : Hid ((putAll m.dr ((m.on (gi o 2) (gi o 3)).take k)).length ≤ 1000000) := Lib.hid (by have := putAll_len m.dr ((m.on (gi o 2) (gi o 3)).take k); rw [List.length_take] at this; omega)
                    have HLC := Lib.hid (show wr.cell? ⟨bl, ol + k, none⟩ = some (.int .i64 (gi (m.on (gi o 2) (gi o 3)) k)) from (HCG.out.cell (p := ⟨bl, ol + k, none⟩) hbl hbg).trans (HLW.out k hlt))
                    have hgr : g < wr.heap.size := by omega
                    have hblr : bl < wr.heap.size := by omega
                    clear hx hgx hsl hput
                    go_wp2_with fail
                    refine wp_region_z (fun w' => w'.cell? ⟨g, 6, none⟩ = some (.slice Ad nd cd) ∧ w'.cell? ⟨bl, ol + k, none⟩ = some (.int .i64 (gi (m.on (gi o 2) (gi o 3)) k))) 12 (by kernel_rfl) ⟨(box7 HGX.out).1.2.2.2.2.2.2, HLC.out⟩ (fun hH0 => ?_)
                    refine wpZ_take 0 14 (u := ?_) rfl (by kernel_rfl) (fun _ _ _ h => h) ⟨by rfl, ?_⟩ hH0 ?_
                    rotate_left
                    · intro w hSw; (try dsimp only at hSw); go_simp; (first | done | with_reducible rfl)
                    try simp only [Act.put, sb1, sb2, sb3]
                    refine wpZ_take 1 14 (u := ?_) rfl (by kernel_rfl) (fun _ _ _ h => h) ⟨by rfl, ?_⟩ hH0 ?_
                    rotate_left
                    · intro w hSw; (try dsimp only at hSw); go_simp; (first | done | with_reducible rfl)
                    try simp only [Act.put, sb1, sb2, sb3]
                    refine wpZ_take 2 14 (u := ?_) rfl (by kernel_rfl) (fun _ _ _ h => h) ⟨by rfl, ?_⟩ hH0 ?_
                    rotate_left
                    · intro w hSw; (try dsimp only at hSw); go_simp; (first | done | with_reducible rfl)
                    try simp only [Act.put, sb1, sb2, sb3]
                    refine wpZ_take 3 14 (u := ?_) rfl (by kernel_rfl) (fun _ _ _ h => h) ⟨by rfl, ?_⟩ hH0 ?_
                    rotate_left
                    · intro w hSw; (try dsimp only at hSw); go_simp; (first | done | with_reducible rfl)
                    try simp only [Act.put, sb1, sb2, sb3]
                    refine wpZ_take 4 14 (u := ?_) rfl (by kernel_rfl) (fun _ _ _ h => h) ⟨by rfl, ?_⟩ hH0 ?_
                    rotate_left
                    · intro w hSw; (try dsimp only at hSw); go_simp; (first | done | with_reducible rfl)
                    try simp only [Act.put, sb1, sb2, sb3]
                    refine wpZ_take 5 14 (u := ?_) rfl (by kernel_rfl) (fun _ _ _ h => h) ⟨by rfl, ?_⟩ hH0 ?_
                    rotate_left
                    · intro w hSw; (try dsimp only at hSw); go_simp; (first | done | with_reducible rfl)
                    try simp only [Act.put, sb1, sb2, sb3]
                    refine wpZ_take 6 14 (u := ?_) rfl (by kernel_rfl) (fun _ _ _ h => h) ⟨by rfl, ?_⟩ hH0 ?_
                    rotate_left
                    · intro w hSw; (try dsimp only at hSw); go_simp; (first | done | with_reducible rfl)
                    try simp only [Act.put, sb1, sb2, sb3]
                    refine wpZ_take 7 14 (u := ?_) rfl (by kernel_rfl) (fun _ _ _ h => h) ⟨by rfl, ?_⟩ hH0 ?_
                    rotate_left
                    · intro w hSw; (try dsimp only at hSw); go_simp; (first | done | with_reducible rfl)
                    try simp only [Act.put, sb1, sb2, sb3]
                    refine wpZ_take 8 14 (u := ?_) rfl (by kernel_rfl) (fun _ _ _ h => h) ⟨by rfl, ?_⟩ hH0 ?_
                    rotate_left
                    · intro w hSw; (try dsimp only at hSw); go_simp; (first | done | with_reducible rfl)
                    try simp only [Act.put, sb1, sb2, sb3]
                    refine wpZ_only 9 rfl (by kernel_rfl) (by rfl) (fun K hK => ?_)
                    go_simp
                    go_at_call 121
                    refine (l00Put_any _ (putAll m.dr ((m.on (gi o 2) (gi o 3)).take k)) (gi (m.on (gi o 2) (gi o 3)) k) wr.heap.size _ (HSLD.out.below (Below.refl _ _).drew (Nat.le_refl _)) (Nat.le_refl _) HDL.out).mono ?_
                    rintro e w8 ⟨r8, rfl, ho8, hb8⟩
                    obtain ⟨A8, c8, rfl, -⟩ := id (ho8.sl (Nat.le_refl _))
                    have hb08 : Below wr.heap.size wr w8 := Below.trans (Below.refl _ _).drew (hb8.mono (Nat.le_refl _))
                    have hg8 := (hb08.block g hgr).trans HGX.out
                    go_wp2_with fail
                    refine hK.out _ _ ?_ (fun hH1 => ?_)
                    · exact ⟨(box7 hg8).1.2.2.2.2.2.2, (hb08.cell (p := ⟨bl, ol + k, none⟩) hblr).trans HLC.out⟩
                    clear hK K hH0
                    try simp only [Act.put, sb1, sb2, sb3]
                    refine wpZ_take 10 14 (u := ?_) rfl (by kernel_rfl) (fun _ _ _ h => h) ⟨by rfl, ?_⟩ hH1 ?_
                    rotate_left
                    · intro w hSw; (try dsimp only at hSw); go_simp; (first | done | with_reducible rfl)
                    try simp only [Act.put, sb1, sb2, sb3]
                    refine wpZ_take 11 14 (u := ?_) rfl (by kernel_rfl) (fun _ _ _ h => h) ⟨by rfl, ?_⟩ hH1 ?_
                    rotate_left
                    · intro w hSw; (try dsimp only at hSw); go_simp; (first | done | with_reducible rfl)
                    try simp only [Act.put, sb1, sb2, sb3]
                    refine wpZ_last rfl (by kernel_rfl) (by kernel_rfl) (by rfl) (fun K hK => ?_)
                    obtain ⟨⟨-, -, -, -, -, -, y6⟩, yf, -⟩ := box7 hg8
                    have yf6 := yf 6
                    have HPUT8 := Lib.hid (HPUT.out (.slice A8 (putI (putAll m.dr ((m.on (gi o 2) (gi o 3)).take k)) (gi (m.on (gi o 2) (gi o 3)) k)).length c8) _ w8 ho8 hb08)
                    go_simp
                    refine hK.out _ _ ?_
                    clear hK K hH1
                    have HB8 := Lib.hid hb08
                    clear hb8 hb08 hg8 y6 yf yf6 ho8
                    go_wp2_with fail
                    go_roundw
                    case rel =>
                      refine ⟨k + 1, by omega, by go_num, ?_, (HCG.out.below' HB8.out).setC _ rfl⟩
                      rw [putAll_take _ _ hlt]
                      exact HPUT8.out.mono (now_now hz (by simp only [World.setCell, Array.size_modify]; exact HB8.out.size))
                    case measure => simp [intOf]; omega
                  · obtain rfl : k = (m.on (gi o 2) (gi o 3)).length := by omega
                    rw [List.take_length] at hx
                    have hSr : ∀ j, Now S w wr j → j < wr.heap.size := now_lt HS.out hz
                    have hs8 := l07Set_ndl (w := wr.alloc (.cells #[] 2)) (S := Now S w wr) (Su := fun k => wr.heap.size ≤ k ∧ k < (wr.alloc (.cells #[] 2)).heap.size) (g := g) (m := { m with dr := putAll m.dr (m.on (gi o 2) (gi o 3)) }) (bed := gi o 2) (a := gi o 3) (u := .slice (some ⟨wr.heap.size, 0, none⟩) 0 0) (ys := []) (hx.below hSr (al1 wr _)) (fun j q => by have := hSr j q; simp; omega) HB1.out a1 (by exact HK1.out) (rw_of_ow (Ow.empty wr)) (fun j q => q.2) (fun j q1 q2 => by have := hSr j q2; have := q1.1; omega)
                    have HS8 := Lib.hid hs8
                    clear hs8 hx hSr
                    go_wp2_with fail
                    refine HS8.out.mono ?_
                    rintro e w8 ⟨rfl, hx8, hc8⟩
                    have hz8 : wr.heap.size + 1 ≤ w8.heap.size := by have := hc8.size; simpa using this
                    have HX8 := Lib.hid hx8
                    have HC8 := Lib.hid hc8
                    clear hx8 hc8
                    go_wp2_with fail
                    go_ret
                    rw [HC.out, HD.out.2]
                    refine ⟨rfl, fun _ => HX8.out.mono fun j q => ?_, ((ChgS.mono HCG.out fun j e => by subst e; exact sg).below' (al1 wr _)).then HC8.out fun j hj q => ?_⟩
                    · rcases q with (q | q) | q
                      · exact .inl q
                      · exact .inr ⟨q.1, by omega⟩
                      · exact .inr ⟨by omega, by have := q.2; simp at this; omega⟩
                    · rcases q with q | q
                      · exact q
                      · omega
            · skip
              by_cases h7 : gi o 0 = 7
              · have hk := h7
                have e1 : (gi o 0 == 1) = false := by simp [h1]
                have e2 : (gi o 0 == 2) = false := by simp [h2]
                have e5 : (gi o 0 == 5) = false := by simp [h5]
                have e3 : (gi o 0 == 3) = false := by simp [h3]
                have e4 : (gi o 0 == 4) = false := by simp [h4]
                have e6 : (gi o 0 == 6) = false := by simp [h6]
                have e7 : (gi o 0 == 7) = true := by simp [hk]
                clear h1 h2 h5 h3 h4 h6 h7
                have HD := Lib.hid (do_rk (m := m) (o := o) hk)
                have HR := Lib.hid (HH.out.setR (gi o 7))
                obtain ⟨hrk, sg⟩ := HH.out.rkc
                obtain ⟨f, b, c, l, d, tag, -, -, hx, -⟩ := id HH.out
                obtain ⟨⟨-, y1, -⟩, yf, hgl⟩ := box7 hx
                have yf1 := yf 1
                clear hk hrk hx yf
                go_enter Tryz.func82, Tryz.ntmps82
                go_wp2_with fail
                go_ret
                rw [HD.out.1, HD.out.2]
                exact ⟨rfl, fun _ => HR.out.1.mono fun j q => .inl q, HR.out.2⟩
              · skip
                have e1 : (gi o 0 == 1) = false := by simp [h1]
                have e2 : (gi o 0 == 2) = false := by simp [h2]
                have e5 : (gi o 0 == 5) = false := by simp [h5]
                have e3 : (gi o 0 == 3) = false := by simp [h3]
                have e4 : (gi o 0 == 4) = false := by simp [h4]
                have e6 : (gi o 0 == 6) = false := by simp [h6]
                have e7 : (gi o 0 == 7) = false := by simp [h7]
                have HD := Lib.hid (do_in (m := m) (o := o) h1 h2 h3 h4 h5 h6 h7)
                have HF := Lib.hid (l07In_any HH.out HOP.out hpS HOK.out.cr HOK.out.wd (HO.out.oth h1 h2 h3 h4 h5 h6 h7))
                clear h1 h2 h3 h4 h5 h6 h7
                go_enter Tryz.func82, Tryz.ntmps82
                go_wp2_with fail
                refine HF.out.mono ?_
                rintro e w1 ⟨rfl, hx1, hc1⟩
                have HX1 := Lib.hid hx1
                have HC1 := Lib.hid hc1
                clear hx1 hc1
                go_wp2_with fail
                go_ret
                rw [← HD.out.1]
                exact ⟨rfl, fun q => by rw [HD.out.2 q]; exact HX1.out.mono fun j q => .inl q, HC1.out⟩
end Go.Proofs.YtgmppfhokfifgaaGreatDoor
