/- span.add where the row is new -/
import Derived.Test.YtjhlmalpcelbaaaDoorBxab
import Derived.Deep.DeepCutAuto
set_option linter.all false
namespace Go.Proofs.YtjhlmalpcelbaaaDoor
open Go.RowKit

attribute [local go_sem] i64_xor_nat i64_bit_test in
set_option maxRecDepth 100000 in
set_option maxHeartbeats 16000000 in
theorem add_yes (B bs : Nat) (v1 v2 : Value) (L : List (Nat × Nat)) (x y : Nat) (w : World) (hT : Tab w) (hB : 0 < B) (hBw : B ≤ w.heap.size) (hs : SpanAt w B bs v1 v2 L) (hsmall : L.length ≤ 1000000)
    (hx : Sm x) (hy : Sm y) (hg : Good L) (hq : (leftN L (x, y)).1 ≠ 0) :
    Calls Tryd.prog 60 #[.pointer (some ⟨bs, 0, none⟩), .int .i64 x, .int .i64 y] w fun e w' =>
      e = .returned (.tuple #[.int .i64 0, .bool true]) ∧ AddPost w B bs v1 v2 (addN L (x, y)) w' := by
  obtain ⟨A1, c1, rfl, _, hA1, _⟩ := owns_shape hs.own1
  obtain ⟨A2, c2, rfl, _, hA2, _⟩ := owns_shape hs.own2
  have hl := left_any bs A1 A2 L.length c1 c2 L x y w hT rfl hsmall hx hy hg hs.c0 hs.c1 (owns_Rd hs.own1) (owns_Rd hs.own2)
  have hsm : SmP (leftN L (x, y)) := SmP.foldl hg ⟨hx, hy⟩
  unfold addN
  generalize leftN L (x, y) = q at *
  have HL := Lib.hid hl
  clear hl
  have hq0 : ((q.1 : Int) == 0) = false := by simp; exact hq
  obtain ⟨q1, q2⟩ := hsm
  have hpv := pv_le hq q1
  have hpiv := fun (W : World) (hT : Tab W) => pivot_any q.1 hq q1 W hT
  have HV := Lib.hid hpiv; clear hpiv
  have c0 := hs.c0
  have c0' := hs.c1
  have hlo := hs.lo
  go_enter Tryd.func60, Tryd.ntmps60
  go_wp2_with (go_at_call 95; refine HL.out.mono ?_; rintro e w' ⟨rfl, m, rfl⟩)
  go_loopw [25] (fun i wr => ∃ k : Nat, k ≤ L.length ∧ i = .int .i64 k ∧ SpanAt wr B bs (.slice A1 L.length c1) (.slice A2 L.length c2) (midL q L k) ∧ Keeps w wr [(Value.slice A1 L.length c1).ownBlock, (Value.slice A2 L.length c2).ownBlock]) (fun i _ => L.length - (intOf i).toNat)
  case atStart => exact ⟨0, by omega, rfl, by simpa [midL] using hs.keeps (Keeps.ofDrewN (S := []) w m) (by simp) (.inr (by simp)) (.inr (by simp)), Keeps.ofDrewN w m⟩
  case round =>
    obtain ⟨k, hk, rfl, hsp, hkp⟩ := hrel
    have HKP := Lib.hid hkp; clear hkp
    by_cases hlt : k < L.length
    · obtain ⟨g1, rfl, hg1, hg1'⟩ := hA1 (by omega)
      obtain ⟨g2, rfl, hg2, hg2'⟩ := hA2 (by omega)
      have lw : w.heap.size ≤ wr.heap.size := HKP.out.size
      have n1 : g1 ≠ bs := by have := hsp.ne1; simpa [Value.ownBlock] using this
      have n2 : g2 ≠ bs := by have := hsp.ne2; simpa [Value.ownBlock] using this
      have n3 : g1 ≠ g2 := by have := hsp.ne; simpa [Value.ownBlock] using this
      have hTr : Tab wr := fun j hj => HKP.out.cellSome (hT j hj) (by simp [Value.ownBlock]; omega)
      obtain ⟨b, o, e, hc⟩ := (owns_Rd (by simpa [midL_length] using hsp.own1)).atN (k := k) (by rw [r1_length, midL_length]; exact hlt)
      cases e
      obtain ⟨b, o, e, hc'⟩ := (owns_Rd (by simpa [midL_length] using hsp.own2)).atN (k := k) (by rw [r2_length, midL_length]; exact hlt)
      cases e
      rw [r1_getD, midL_getD q L k hlt] at hc; rw [r2_getD, midL_getD q L k hlt] at hc'
      obtain ⟨_, g3, g4⟩ := hg.at_ hlt
      have hf1 : wr.frozen? ⟨g1, k, none⟩ = false := by
        have := hsp.own1; rw [midL_length] at this; exact this.frozenAt k
      have hf2 : wr.frozen? ⟨g2, k, none⟩ = false := by
        have := hsp.own2; rw [midL_length] at this; exact this.frozenAt k
      have d0 := hsp.c0
      have d1 := hsp.c1
      have HS := Lib.hid hsp; clear hsp
      have HX := Lib.hid (midL_succ q L k hlt)
      have HI := Lib.hid (midL_id q L k hlt)
      clear hA1 hA2 c0 c0' hs hT hx hy hg hq
      generalize L.getD k (0, 0) = r at *
      simp only [Nat.zero_add] at hc hc'
      cases hb : tb r.1 (pv q.1)
      · go_wp2_with (go_at_call 91; refine (HV.out _ (by exact hTr)).mono ?_; rintro e w' ⟨rfl, rfl⟩)
        go_roundw
        case rel => exact ⟨k + 1, by omega, by go_num, by rw [HI.out (by simp [addStep, hb])]; exact HS.out, HKP.out⟩
        case measure => simp [intOf]; omega
      · go_wp2_with (go_at_call 91; refine (HV.out _ (by exact hTr)).mono ?_; rintro e w' ⟨rfl, rfl⟩)
        go_region
        all_goals go_wp2_with fail
        all_goals go_roundw
        case rel =>
          have hst := HS.out.store k (addStep q r)
          rw [← HX.out] at hst
          simp only [addStep, hb, if_true] at hst
          exact ⟨k + 1, by omega, by go_num, hst.keeps (Keeps.ofDrewN (S := []) _ 1) (by simp) (.inr (by simp)) (.inr (by simp)), ((HKP.out.setCell (p := ⟨g1, k, none⟩) (by simp [Value.ownBlock]) _).setCell (p := ⟨g2, k, none⟩) (by simp [Value.ownBlock]) _).drew⟩
        case measure => simp [intOf]; omega
    · have ek : k = L.length := by omega
      subst ek
      have hd0 := hsp.c0
      have hd1 := hsp.c1
      have hml : midL q L L.length = L.map (addStep q) := by simp [midL]
      rw [hml] at hsp
      have o1 := hsp.own1
      have o2 := hsp.own2
      rw [List.length_map] at o1 o2
      have n1 := hsp.ne1
      have n2 := hsp.ne2
      have lb := hsp.lt
      have HSP := Lib.hid hsp; clear hsp hml
      have lw : w.heap.size ≤ wr.heap.size := HKP.out.size
      clear hA1 hA2 c0 c0' hs hT hx hy hg hq
      go_wp2_with fail
      generalize hv1 : (Value.slice A1 L.length c1) = v1 at *
      generalize hv2 : (Value.slice A2 L.length c2) = v2 at *
      have HV1 := Lib.hid hv1
      have HV2 := Lib.hid hv2
      clear hv1 hv2
      have HO1 := Lib.hid o1
      have HO2 := Lib.hid o2
      have l1 := Lib.hid (fun k hk => (o1.lt k hk).2)
      have ne21 : Hid (v2.ownBlock = none ∨ v2.ownBlock ≠ v1.ownBlock) := by
        rcases HSP.out.ne with h | h
        · rw [h]; by_cases h2 : v2.ownBlock = none
          · exact .inl h2
          · exact .inr h2
        · exact .inr (Ne.symm h)
      have hblk := Lib.hid HSP.out.blk
      have f0 := HSP.out.fz 0
      have f1 := HSP.out.fz 1
      clear o1 o2 hpv hq0 HL HV
      go_cut [] (fun wx => AddPost w B bs v1 v2 (L.map (addStep q) ++ [q]) wx)
      case rest =>
        go_wp2_with fail
        go_ret2
        exact ⟨rfl, by rw [HV1.out, HV2.out]; exact hcut⟩
      case first =>
        go_region_law
        (first
          | (refine step_app1 _ _ _ _ _ etI (by rfl) (by rfl) B v1 L.length (nv (r1 (L.map (addStep q)))) (by rfl) ?_ _ (.int .i64 q.1) (by rfl) ?_ (by rfl) ?_ ?_ ?_; (first | exact HO1.out.alloc _ | exact (HO1.out.alloc _).alloc _); (first | exact new_cell _ _ _ | exact new_cell2 _ _ _ _ | exact new_cell1 _ _ _ _); omega; (simp; omega); (intro g1 cap1 w1 hown1 hgrow hat1 hlt1; have HO2' : Hid (w1.ownsRow B 2 1 v2 L.length (nv (r2 (L.map (addStep q))))) := World.ownsRow.kept (by first | exact HO2.out.alloc _ | exact (HO2.out.alloc _).alloc _) hgrow ne21.out; have HB : Hid (w1.heap[bs]? = some (.cells #[v1, v2] 68 (0, 0))) := blk_grown (by first | exact blk_alloc hblk.out _ | exact blk_alloc (blk_alloc hblk.out _) _) hgrow n1; obtain ⟨_, s0, s1, s2, s3⟩ := sblk HB.out; have s4 : ∀ o, (w1.alloc o).cell? ⟨bs, 1, none⟩ = some v2 := fun o => (sblk (blk_alloc HB.out o)).2.2.1))
          | (refine step_app1 _ _ _ _ _ etI (by rfl) (by rfl) B v2 L.length (nv (r2 (L.map (addStep q)))) (by rfl) ?_ _ (.int .i64 q.2) (by rfl) ?_ (by rfl) ?_ ?_ ?_; (first | with_reducible exact HO2'.out | with_reducible exact HO2'.out.alloc _); (first | with_reducible exact new_cell _ _ _ | (refine grown_cell_new hgrow (drew_cell (new_cell2 _ _ _ _)) l1.out ?_; simp) | (refine grown_cell_new hgrow (drew_cell (new_cell1 _ _ _ _)) l1.out ?_; simp)); omega; (have := HO2'.out.lt; have e1 := hgrow.size; simp at e1 ⊢; omega); (intro g2 cap2 w2 hown2 hgrow2 hat2 hlt2; have HB2 : Hid (w2.heap[bs]? = some (.cells #[v1, v2] 68 (0, 0))) := blk_grown (by first | with_reducible exact HB.out | with_reducible exact blk_alloc HB.out _) hgrow2 n2; obtain ⟨_, q0, q1, q2, q3⟩ := sblk HB2.out)))
        all_goals go_wp2_with fail
        all_goals go_meet
        all_goals exact add_post HSP.out (by rw [List.length_map]) HKP.out (by first | exact keeps_a1d hgrow | exact keeps_a2d hgrow) hown1 (by first | exact at_a1d hat1 | exact at_a2d hat1) hlt1 (by first | exact keeps_g hgrow2 | exact keeps_a1 hgrow2) hown2 (by first | exact at_g hat2 | exact at_a1 hat2)
end Go.Proofs.YtjhlmalpcelbaaaDoor
