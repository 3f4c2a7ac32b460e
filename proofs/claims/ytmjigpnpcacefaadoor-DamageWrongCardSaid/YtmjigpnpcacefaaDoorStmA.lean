/- A statement of the law DamageWrong: the list with a bad bit put in, in whichever order its parts are made. -/
import Derived.Test.YtmjigpnpcacefaaDoorApps
import Derived.Deep.DeepCutAuto
namespace Go.Proofs.YtmjigpnpcacefaaDoor
open Go Go.RowKit Go.Shelf
/-- The region of that number. -/
def findReg (n : Nat) : Code → Option Code
  | .region id ops b => if id = n then some (.region id ops b) else none
  | .seq a b => match findReg n a with
    | some c => some c
    | none => findReg n b
  | .cond _ a b => match findReg n a with
    | some c => some c
    | none => findReg n b
  | .block _ c => findReg n c
  | .loop c => findReg n c
  | .scope c => findReg n c
  | _ => none
noncomputable def reg18 : Code := (Tryd.f8.body.bind (findReg 18)).getD .skip
set_option maxRecDepth 1000000 in
set_option maxHeartbeats 8000000 in
theorem stmt18 (s0 s1 s2 s3 s4 s5 s6 s7 s8 s10 s11 s12 s13 s15 s17 s18 s19 s20 s21 s22 s23 s24 s25 s26 s27 s28 s29 s30 s31 s32 s33 s34 s35 s36 s37 s38 s39 s40 s41 s42 s43 s44 s45 s46 s47 s48 s49 s50 s51 s52 s53 s54 s55 s56 s57 s58 s59 s60 s61 s62 s63 s64 s65 s66 s67 s68 s69 s70 s71 s72 s73 s74 s75 s76 s77 s78 s79 s80 s81 s82 s83 s84 s85 s86 s87 s88 s89 s90 s91 s92 s93 s94 s95 s96 s97 s98 s99 s100 s101 s102 s103 s104 s105 s106 s107 s108 s109 s110 s111 s112 s113 s114 s115 s116 s117 s118 s119 s120 s121 s122 s123 s124 s125 s126 s127 s128 s129 s130 s131 s132 s133 s134 s135 s136 s137 s138 s139 s140 s141 s142 s143 s144 s145 s146 s147 s148 s149 s150 s151 s152 s153 s154 s155 s156 s157 s158 s159 s160 s161 s162 s163 s164 s165 s166 s167 s168 s169 s170 s171 s172 s173 s174 s175 s176 s177 s178 s179 s180 s181 s182 s183 s184 s185 s186 s187 s188 s189 s190 s191 s192 s193 s194 s195 s196 s197 s198 s199 s200 s201 s202 s203 s204 s205 s206 s207 s208 s209 s210 s211 s212 s213 s214 s215 s216 s217 s218 s219 s220 s221 s222 s223 s224 s225 s226 s227 s228 s229 s230 s231 s232 s233 s234 s235 s236 s237 s238 s239 s240 s241 s242 s243 s244 s245 s246 s247 s248 s249 s250 s251 s252 s253 s254 s255 s256 s257 s258 s259 s260 s261 s262 s263 s264 s265 s266 s267 s268 s269 s270 s271 s272 s273 s274 s275 s276 s277 s278 s279 s280 s281 s282 s283 s284 s285 s286 s287 s288 s289 s290 s291 s292 s293 s294 s295 s296 s297 s298 s299 s300 s301 s302 s303 s304 s305 s306 s307 s308 s309 s310 s311 s312 s313 s314 s315 s316 s317 s318 s319 s320 s321 s322 s323 s324 s325 s326 s327 s328 s329 s330 s331 s332 s333 s334 s335 s336 s337 s338 s339 : Value) (Q : Exit → Act → World → Prop) (wq : World) (aq a2 : Option Addr) (nq cq k : Nat) (l1 l2 : List Int) (bad : Int) (hkq : k ≤ nq) (hnqc : nq ≤ cq) (_hcqm : cq ≤ 9223372036854775807) (hq20 : nq ≤ 20)
    (hif : (if cq = k then aq else aq.map fun x => x.add k) = a2) (hr1 : ReadsI .i64 wq (.slice aq k cq) l1) (hr2 : ReadsI .i64 wq (.slice a2 (nq - k) (cq - k)) l2) (e1 : l1.length = k) (e2 : l2.length = nq - k)
    (hp : ∀ c (a : Act) (d : Tmp) v W, Q (.panic c) (a.put (some d) v) W → Q (.panic c) a W)
    (hQ : ∀ (u105 u106 u107 u108 u109 u110 u111 u112 u113 u114 u115 u116 : Value) a c W, ReadsI .i64 W (.slice a (nq + 1) c) (l1 ++ bad :: l2) → Below wq.heap.size wq W → Q .normal ⟨#[s0, s1, s2, s3, s4, s5, s6, s7, s8, .slice aq nq cq, s10, s11, s12, s13, .int .i64 (k : Int), s15, .int .i64 bad, .slice a (nq + 1) c, s18, s19, s20, s21, s22, s23, s24, s25, s26, s27, s28, s29, s30, s31, s32, s33, s34, s35, s36, s37, s38, s39, s40, s41, s42, s43, s44, s45, s46, s47, s48, s49, s50, s51, s52, s53, s54, s55, s56, s57, s58, s59, s60, s61, s62, s63, s64, s65, s66, s67, s68, s69, s70, s71, s72, s73, s74, s75, s76, s77, s78, s79, s80, s81, s82, s83, s84, s85, s86, s87, s88, s89, s90, s91, s92, s93, s94, s95, s96, s97, s98, s99, s100, s101, s102, s103, s104, u105, u106, u107, u108, u109, u110, u111, u112, u113, u114, u115, u116, s117, s118, s119, s120, s121, s122, s123, s124, s125, s126, s127, s128, s129, s130, s131, s132, s133, s134, s135, s136, s137, s138, s139, s140, s141, s142, s143, s144, s145, s146, s147, s148, s149, s150, s151, s152, s153, s154, s155, s156, s157, s158, s159, s160, s161, s162, s163, s164, s165, s166, s167, s168, s169, s170, s171, s172, s173, s174, s175, s176, s177, s178, s179, s180, s181, s182, s183, s184, s185, s186, s187, s188, s189, s190, s191, s192, s193, s194, s195, s196, s197, s198, s199, s200, s201, s202, s203, s204, s205, s206, s207, s208, s209, s210, s211, s212, s213, s214, s215, s216, s217, s218, s219, s220, s221, s222, s223, s224, s225, s226, s227, s228, s229, s230, s231, s232, s233, s234, s235, s236, s237, s238, s239, s240, s241, s242, s243, s244, s245, s246, s247, s248, s249, s250, s251, s252, s253, s254, s255, s256, s257, s258, s259, s260, s261, s262, s263, s264, s265, s266, s267, s268, s269, s270, s271, s272, s273, s274, s275, s276, s277, s278, s279, s280, s281, s282, s283, s284, s285, s286, s287, s288, s289, s290, s291, s292, s293, s294, s295, s296, s297, s298, s299, s300, s301, s302, s303, s304, s305, s306, s307, s308, s309, s310, s311, s312, s313, s314, s315, s316, s317, s318, s319, s320, s321, s322, s323, s324, s325, s326, s327, s328, s329, s330, s331, s332, s333, s334, s335, s336, s337, s338, s339], []⟩ W) :
    reg18.wp Tryd.prog Q ⟨#[s0, s1, s2, s3, s4, s5, s6, s7, s8, .slice aq nq cq, s10, s11, s12, s13, .int .i64 (k : Int), s15, .int .i64 bad, s17, s18, s19, s20, s21, s22, s23, s24, s25, s26, s27, s28, s29, s30, s31, s32, s33, s34, s35, s36, s37, s38, s39, s40, s41, s42, s43, s44, s45, s46, s47, s48, s49, s50, s51, s52, s53, s54, s55, s56, s57, s58, s59, s60, s61, s62, s63, s64, s65, s66, s67, s68, s69, s70, s71, s72, s73, s74, s75, s76, s77, s78, s79, s80, s81, s82, s83, s84, s85, s86, s87, s88, s89, s90, s91, s92, s93, s94, s95, s96, s97, s98, s99, s100, s101, s102, s103, s104, s105, s106, s107, s108, s109, s110, s111, s112, s113, s114, s115, s116, s117, s118, s119, s120, s121, s122, s123, s124, s125, s126, s127, s128, s129, s130, s131, s132, s133, s134, s135, s136, s137, s138, s139, s140, s141, s142, s143, s144, s145, s146, s147, s148, s149, s150, s151, s152, s153, s154, s155, s156, s157, s158, s159, s160, s161, s162, s163, s164, s165, s166, s167, s168, s169, s170, s171, s172, s173, s174, s175, s176, s177, s178, s179, s180, s181, s182, s183, s184, s185, s186, s187, s188, s189, s190, s191, s192, s193, s194, s195, s196, s197, s198, s199, s200, s201, s202, s203, s204, s205, s206, s207, s208, s209, s210, s211, s212, s213, s214, s215, s216, s217, s218, s219, s220, s221, s222, s223, s224, s225, s226, s227, s228, s229, s230, s231, s232, s233, s234, s235, s236, s237, s238, s239, s240, s241, s242, s243, s244, s245, s246, s247, s248, s249, s250, s251, s252, s253, s254, s255, s256, s257, s258, s259, s260, s261, s262, s263, s264, s265, s266, s267, s268, s269, s270, s271, s272, s273, s274, s275, s276, s277, s278, s279, s280, s281, s282, s283, s284, s285, s286, s287, s288, s289, s290, s291, s292, s293, s294, s295, s296, s297, s298, s299, s300, s301, s302, s303, s304, s305, s306, s307, s308, s309, s310, s311, s312, s313, s314, s315, s316, s317, s318, s319, s320, s321, s322, s323, s324, s325, s326, s327, s328, s329, s330, s331, s332, s333, s334, s335, s336, s337, s338, s339], []⟩ wq := by
  have HQ := Lib.hid hQ
  have HP := Lib.hid hp
  have HE := Lib.hid (And.intro e1 e2)
  have HRD := Lib.hid (And.intro hr1 hr2)
  clear hQ hp e1 e2 hr1 hr2
  conv => arg 2; whnf
  have hln2 : (l1).length + ([bad] : List Int).length < 17592186044415 := by rw [HE.out.1]; simp; omega
  have hln3 : (l1 ++ [bad]).length + (l2).length < 17592186044415 := by rw [List.length_append, HE.out.1, HE.out.2]; simp; omega
  have hl4 : (l1 ++ [bad] ++ l2).length = nq + 1 := by rw [List.length_append, List.length_append, HE.out.1, HE.out.2]; simp; omega
  obtain ⟨vX1, wX1, vX2, wX2, x1, x2, ox2, bx2, bx1⟩ := app2X wq _ _ [bad] #[.int .i64 bad] 1 rfl rfl HRD.out.1 hln2
  obtain ⟨vX3, wX3, x3, ox3, bx3⟩ := app3 wq wX2 vX2 _ _ _ ox2 bx2 HRD.out.2 hln3
  obtain ⟨vY1, wY1, vY2, wY2, y1, y2, oy2, by2, by1⟩ := app2Y wq _ _ [bad] #[.int .i64 bad] 1 rfl rfl HRD.out.1 hln2
  obtain ⟨vY3, wY3, y3, oy3, by3⟩ := app3 wq wY2 vY2 _ _ _ oy2 by2 HRD.out.2 hln3
  obtain ⟨vZ1, wZ1, vZ2, wZ2, z1, z2, oz2, bz2, bz1⟩ := app2Z wq _ _ [bad] #[.int .i64 bad] 1 rfl rfl HRD.out.1 hln2
  obtain ⟨vZ3, wZ3, z3, oz3, bz3⟩ := app3 wq wZ2 vZ2 _ _ _ oz2 bz2 HRD.out.2 hln3
  have FIN := Lib.hid (fun (v : Value) (W : World) (ho : OwnsI .i64 3 W wq.heap.size v (l1 ++ [bad] ++ l2)) (hb : Below wq.heap.size wq W) => (show ∃ a c, v = .slice a (nq + 1) c ∧ ReadsI .i64 W (.slice a (nq + 1) c) (l1 ++ bad :: l2) ∧ Below wq.heap.size wq W from by
    obtain ⟨a, n', c, rfl, hn', -⟩ := ho.slice
    rw [hl4] at hn'
    subst hn'
    refine ⟨a, c, rfl, ?_, hb⟩
    have h := ho.reads
    rwa [List.append_assoc] at h))
  have OX := Lib.hid (FIN.out _ _ ox3 bx3)
  have OY := Lib.hid (FIN.out _ _ oy3 by3)
  have OZ := Lib.hid (FIN.out _ _ oz3 bz3)
  have hkc : (k : Int) ≤ (cq : Int) := by omega
  have hkn : (k : Int) ≤ (nq : Int) := by omega
  have hnc : (nq : Int) ≤ (cq : Int) := by omega
  clear ox2 ox3 oy2 oy3 oz2 oz3 hln2 hln3 hl4 FIN
  have HK := Lib.hid (fun (W : World) (hW : Below wq.heap.size wq W) => hW)
  have hD : Below wq.heap.size wq wq.drew := (bel_refl wq).drew
  have X1 : RunsApp Tryd.prog 25 25 25 (.slice (some ⟨wq.heap.size, 0, none⟩) 0 0) (.slice aq k cq) (wq.drew.alloc (.cells #[] 3)) vX1 wX1 := runs_app x1
  have X2 := runs_app x2
  have X3 := runs_app x3
  have Y1 : RunsApp Tryd.prog 25 25 25 (.slice (some ⟨wq.heap.size, 0, none⟩) 0 0) (.slice aq k cq) ((wq.drew.alloc (.cells #[] 3)).alloc (.cells #[.int .i64 bad] 3)) vY1 wY1 := runs_app y1
  have Y2 := runs_app y2
  have Y3 := runs_app y3
  have Z1 : RunsApp Tryd.prog 25 25 25 (.slice (some ⟨wq.heap.size + 1, 0, none⟩) 0 0) (.slice aq k cq) ((wq.drew.alloc (.cells #[.int .i64 bad] 3)).alloc (.cells #[] 3)) vZ1 wZ1 := runs_app z1
  have Z2 := runs_app z2
  have Z3 := runs_app z3
  refine wp_region_held_drew (S := fun W => Below wq.heap.size wq W) (by kernel_rfl) (HK.out _ hD) (fun hS => ?_)
  refine wpAnyH_takeD (i := 1) (d := some 106) (v := ?_) rfl rfl (by kernel_rfl) (by kernel_rfl) (by kernel_rfl) (fun c a w h => HP.out c a _ _ w h) (Or.inl ⟨by rfl, fun w hSw => ?_⟩) (by assumption) ?_
  rotate_left
  · first | (go_simp; done) | (go_simp; with_reducible rfl)
  simp only [Act.put, List.setIfInBounds_toArray, List.set_cons_zero, List.set_cons_succ]
  refine wpAnyH_takeD (i := 2) (d := some 107) (v := ?_) rfl rfl (by kernel_rfl) (by kernel_rfl) (by kernel_rfl) (fun c a w h => HP.out c a _ _ w h) (Or.inl ⟨by rfl, fun w hSw => ?_⟩) (by assumption) ?_
  rotate_left
  · first | (go_simp; done) | (go_simp; with_reducible rfl)
  simp only [Act.put, List.setIfInBounds_toArray, List.set_cons_zero, List.set_cons_succ]
  refine wpAnyH_takeD (i := 3) (d := some 108) (v := ?_) rfl rfl (by kernel_rfl) (by kernel_rfl) (by kernel_rfl) (fun c a w h => HP.out c a _ _ w h) (Or.inl ⟨by rfl, fun w hSw => ?_⟩) (by assumption) ?_
  rotate_left
  · first | (go_simp; done) | (go_simp; with_reducible rfl)
  simp only [Act.put, List.setIfInBounds_toArray, List.set_cons_zero, List.set_cons_succ]
  refine wpAnyH_takeD (i := 5) (d := some 110) (v := ?_) rfl rfl (by kernel_rfl) (by kernel_rfl) (by kernel_rfl) (fun c a w h => HP.out c a _ _ w h) (Or.inl ⟨by rfl, fun w hSw => ?_⟩) (by assumption) ?_
  rotate_left
  · first | (go_simp; done) | (go_simp; with_reducible rfl)
  simp only [Act.put, List.setIfInBounds_toArray, List.set_cons_zero, List.set_cons_succ]
  refine wpAnyH_takeD (i := 8) (d := some 113) (v := ?_) rfl rfl (by kernel_rfl) (by kernel_rfl) (by kernel_rfl) (fun c a w h => HP.out c a _ _ w h) (Or.inl ⟨by rfl, fun w hSw => ?_⟩) (by assumption) ?_
  rotate_left
  · first | (go_simp; done) | (go_simp; with_reducible rfl)
  simp only [Act.put, List.setIfInBounds_toArray, List.set_cons_zero, List.set_cons_succ]
  refine wpAnyH_takeD (i := 9) (d := some 114) (v := ?_) rfl rfl (by kernel_rfl) (by kernel_rfl) (by kernel_rfl) (fun c a w h => HP.out c a _ _ w h) (Or.inl ⟨by rfl, fun w hSw => ?_⟩) (by assumption) ?_
  rotate_left
  · first | (go_simp; done) | (go_simp; with_reducible rfl)
  simp only [Act.put, List.setIfInBounds_toArray, List.set_cons_zero, List.set_cons_succ]
  refine wpAnyH_takeD (i := 10) (d := some 115) (v := ?_) rfl rfl (by kernel_rfl) (by kernel_rfl) (by kernel_rfl) (fun c a w h => HP.out c a _ _ w h) (Or.inl ⟨by rfl, fun w hSw => ?_⟩) (by assumption) ?_
  rotate_left
  · first | (go_simp; done) | (go_simp; with_reducible rfl)
  simp only [Act.put, List.setIfInBounds_toArray, List.set_cons_zero, List.set_cons_succ]
  refine wpAnyH_ready (rs := [0, 6]) (by kernel_rfl) (by simp) ?_
  refine AllReadyH.cons rfl (fun K hK => ?_) (AllReadyH.cons rfl (fun K hK => ?_) AllReadyH.nil)
  · go_simp
    refine hK _ _ (HK.out _ (hD.alloc (by simp) _)) (fun hS' => ?_)
    clear hK K hS
    have hS := hS'
    clear hS'
    try simp only [Act.put, List.setIfInBounds_toArray, List.set_cons_zero, List.set_cons_succ]
    refine wpAnyH_ready (rs := [4, 6]) (by kernel_rfl) (by simp) ?_
    refine AllReadyH.cons rfl (fun K hK => ?_) (AllReadyH.cons rfl (fun K hK => ?_) AllReadyH.nil)
    · refine step_appD rfl 109 rfl (.tmp 105) (.tmp 108) 25 25 rfl _ wX1 X1 ?_
      refine hK _ _ (HK.out _ (bx1)) (fun hS' => ?_)
      clear hK K hS
      have hS := hS'
      clear hS'
      try simp only [Act.put, List.setIfInBounds_toArray, List.set_cons_zero, List.set_cons_succ]
      refine wpAnyH_ready (rs := [6]) (by kernel_rfl) (by simp) ?_
      refine AllReadyH.cons rfl (fun K hK => ?_) AllReadyH.nil
      go_simp
      refine hK _ _ (HK.out _ (bx1.alloc bx1.size _)) (fun hS' => ?_)
      clear hK K hS
      have hS := hS'
      clear hS'
      try simp only [Act.put, List.setIfInBounds_toArray, List.set_cons_zero, List.set_cons_succ]
      refine wpAnyH_ready (rs := [7]) (by kernel_rfl) (by simp) ?_
      refine AllReadyH.cons rfl (fun K hK => ?_) AllReadyH.nil
      refine step_appD rfl 112 rfl (.tmp 109) (.tmp 111) 25 25 rfl _ wX2 X2 ?_
      refine hK _ _ (HK.out _ (bx2)) (fun hS' => ?_)
      clear hK K hS
      have hS := hS'
      clear hS'
      try simp only [Act.put, List.setIfInBounds_toArray, List.set_cons_zero, List.set_cons_succ]
      refine wpAnyH_ready (rs := [11]) (by kernel_rfl) (by simp) ?_
      refine AllReadyH.cons rfl (fun K hK => ?_) AllReadyH.nil
      refine step_appD rfl 116 rfl (.tmp 112) (.tmp 115) 25 25 rfl _ wX3 X3 ?_
      refine hK _ _ (HK.out _ (bx3)) (fun hS' => ?_)
      clear hK K hS
      have hS := hS'
      clear hS'
      try simp only [Act.put, List.setIfInBounds_toArray, List.set_cons_zero, List.set_cons_succ]
      refine wpAnyH_takeD (i := 12) (d := some 17) (v := ?_) rfl rfl (by kernel_rfl) (by kernel_rfl) (by kernel_rfl) (fun c a w h => HP.out c a _ _ w h) (Or.inl ⟨by rfl, fun w hSw => ?_⟩) (by assumption) ?_
      rotate_left
      · first | (go_simp; done) | (go_simp; with_reducible rfl)
      simp only [Act.put, List.setIfInBounds_toArray, List.set_cons_zero, List.set_cons_succ]
      refine wpAnyH_done (by kernel_rfl) ?_ _
      obtain ⟨a3, c3, e3, r3, b3⟩ := OX.out
      subst e3
      exact HQ.out _ _ _ _ _ _ _ _ _ _ _ _ _ _ _ r3 b3
    · go_simp
      refine hK _ _ (HK.out _ ((hD.alloc (by simp) _).alloc (by simp) _)) (fun hS' => ?_)
      clear hK K hS
      have hS := hS'
      clear hS'
      try simp only [Act.put, List.setIfInBounds_toArray, List.set_cons_zero, List.set_cons_succ]
      refine wpAnyH_ready (rs := [4]) (by kernel_rfl) (by simp) ?_
      refine AllReadyH.cons rfl (fun K hK => ?_) AllReadyH.nil
      refine step_appD rfl 109 rfl (.tmp 105) (.tmp 108) 25 25 rfl _ wY1 Y1 ?_
      refine hK _ _ (HK.out _ (by1)) (fun hS' => ?_)
      clear hK K hS
      have hS := hS'
      clear hS'
      try simp only [Act.put, List.setIfInBounds_toArray, List.set_cons_zero, List.set_cons_succ]
      refine wpAnyH_ready (rs := [7]) (by kernel_rfl) (by simp) ?_
      refine AllReadyH.cons rfl (fun K hK => ?_) AllReadyH.nil
      refine step_appD rfl 112 rfl (.tmp 109) (.tmp 111) 25 25 rfl _ wY2 Y2 ?_
      refine hK _ _ (HK.out _ (by2)) (fun hS' => ?_)
      clear hK K hS
      have hS := hS'
      clear hS'
      try simp only [Act.put, List.setIfInBounds_toArray, List.set_cons_zero, List.set_cons_succ]
      refine wpAnyH_ready (rs := [11]) (by kernel_rfl) (by simp) ?_
      refine AllReadyH.cons rfl (fun K hK => ?_) AllReadyH.nil
      refine step_appD rfl 116 rfl (.tmp 112) (.tmp 115) 25 25 rfl _ wY3 Y3 ?_
      refine hK _ _ (HK.out _ (by3)) (fun hS' => ?_)
      clear hK K hS
      have hS := hS'
      clear hS'
      try simp only [Act.put, List.setIfInBounds_toArray, List.set_cons_zero, List.set_cons_succ]
      refine wpAnyH_takeD (i := 12) (d := some 17) (v := ?_) rfl rfl (by kernel_rfl) (by kernel_rfl) (by kernel_rfl) (fun c a w h => HP.out c a _ _ w h) (Or.inl ⟨by rfl, fun w hSw => ?_⟩) (by assumption) ?_
      rotate_left
      · first | (go_simp; done) | (go_simp; with_reducible rfl)
      simp only [Act.put, List.setIfInBounds_toArray, List.set_cons_zero, List.set_cons_succ]
      refine wpAnyH_done (by kernel_rfl) ?_ _
      obtain ⟨a3, c3, e3, r3, b3⟩ := OY.out
      subst e3
      exact HQ.out _ _ _ _ _ _ _ _ _ _ _ _ _ _ _ r3 b3
  · go_simp
    refine hK _ _ (HK.out _ (hD.alloc (by simp) _)) (fun hS' => ?_)
    clear hK K hS
    have hS := hS'
    clear hS'
    try simp only [Act.put, List.setIfInBounds_toArray, List.set_cons_zero, List.set_cons_succ]
    refine wpAnyH_ready (rs := [0]) (by kernel_rfl) (by simp) ?_
    refine AllReadyH.cons rfl (fun K hK => ?_) AllReadyH.nil
    go_simp
    refine hK _ _ (HK.out _ ((hD.alloc (by simp) _).alloc (by simp) _)) (fun hS' => ?_)
    clear hK K hS
    have hS := hS'
    clear hS'
    try simp only [Act.put, List.setIfInBounds_toArray, List.set_cons_zero, List.set_cons_succ]
    refine wpAnyH_ready (rs := [4]) (by kernel_rfl) (by simp) ?_
    refine AllReadyH.cons rfl (fun K hK => ?_) AllReadyH.nil
    refine step_appD rfl 109 rfl (.tmp 105) (.tmp 108) 25 25 rfl _ wZ1 Z1 ?_
    refine hK _ _ (HK.out _ (bz1)) (fun hS' => ?_)
    clear hK K hS
    have hS := hS'
    clear hS'
    try simp only [Act.put, List.setIfInBounds_toArray, List.set_cons_zero, List.set_cons_succ]
    refine wpAnyH_ready (rs := [7]) (by kernel_rfl) (by simp) ?_
    refine AllReadyH.cons rfl (fun K hK => ?_) AllReadyH.nil
    refine step_appD rfl 112 rfl (.tmp 109) (.tmp 111) 25 25 rfl _ wZ2 Z2 ?_
    refine hK _ _ (HK.out _ (bz2)) (fun hS' => ?_)
    clear hK K hS
    have hS := hS'
    clear hS'
    try simp only [Act.put, List.setIfInBounds_toArray, List.set_cons_zero, List.set_cons_succ]
    refine wpAnyH_ready (rs := [11]) (by kernel_rfl) (by simp) ?_
    refine AllReadyH.cons rfl (fun K hK => ?_) AllReadyH.nil
    refine step_appD rfl 116 rfl (.tmp 112) (.tmp 115) 25 25 rfl _ wZ3 Z3 ?_
    refine hK _ _ (HK.out _ (bz3)) (fun hS' => ?_)
    clear hK K hS
    have hS := hS'
    clear hS'
    try simp only [Act.put, List.setIfInBounds_toArray, List.set_cons_zero, List.set_cons_succ]
    refine wpAnyH_takeD (i := 12) (d := some 17) (v := ?_) rfl rfl (by kernel_rfl) (by kernel_rfl) (by kernel_rfl) (fun c a w h => HP.out c a _ _ w h) (Or.inl ⟨by rfl, fun w hSw => ?_⟩) (by assumption) ?_
    rotate_left
    · first | (go_simp; done) | (go_simp; with_reducible rfl)
    simp only [Act.put, List.setIfInBounds_toArray, List.set_cons_zero, List.set_cons_succ]
    refine wpAnyH_done (by kernel_rfl) ?_ _
    obtain ⟨a3, c3, e3, r3, b3⟩ := OZ.out
    subst e3
    exact HQ.out _ _ _ _ _ _ _ _ _ _ _ _ _ _ _ r3 b3
end Go.Proofs.YtmjigpnpcacefaaDoor
