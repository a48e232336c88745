/- The code of functions, as a table. Conditions: none. -/
import Derived.Test.YtooaiddfokbffaaCL0
import Derived.Test.YtooaiddfokbffaaCL1
import Derived.Test.YtooaiddfokbffaaCL2
namespace Go.Proofs.Ytooaiddfokbffaa.E
open Go Go.Proofs
def tabL : List (Nat × AFn) := [(3, c3), (4, c4), (7, c7), (8, c8), (9, c9), (11, c11), (14, c14), (15, c15), (16, c16), (17, c17), (18, c18), (19, c19), (20, c20), (21, c21), (22, c22), (23, c23), (24, c24), (25, c25), (26, c26), (27, c27), (29, c29), (32, c32), (39, c39), (40, c40), (41, c41), (42, c42), (43, c43), (44, c44), (45, c45), (52, c52), (55, c55), (56, c56), (72, c72), (73, c73), (74, c74), (75, c75), (76, c76), (77, c77), (78, c78), (79, c79), (80, c80), (81, c81), (82, c82), (83, c83), (84, c84), (85, c85), (86, c86), (87, c87), (92, c92), (93, c93), (94, c94), (95, c95), (96, c96), (97, c97), (98, c98), (106, c106), (107, c107), (123, c123), (124, c124), (125, c125), (126, c126), (127, c127), (128, c128), (129, c129), (130, c130), (131, c131), (132, c132), (138, c138), (139, c139), (140, c140), (141, c141), (142, c142), (143, c143), (147, c147), (148, c148), (149, c149), (161, c161), (171, c171), (172, c172), (173, c173), (174, c174), (176, c176), (177, c177), (178, c178), (179, c179), (180, c180), (181, c181), (182, c182), (183, c183), (184, c184), (185, c185), (197, c197), (198, c198), (199, c199), (200, c200), (201, c201), (202, c202), (203, c203), (204, c204), (211, c211)]
def tabAt : List (Nat × AFn) → Nat → Option AFn
  | [], _ => none
  | (i, F) :: r, k => if i = k then some F else tabAt r k
theorem tabAt_spec {Q : Nat → AFn → Prop} : ∀ (l : List (Nat × AFn)), (∀ p ∈ l, Q p.1 p.2) → ∀ k F, tabAt l k = some F → Q k F
  | [], _, _, _, h => by simp [tabAt] at h
  | (i, F') :: r, hl, k, F, h => by
    simp only [tabAt] at h
    split at h
    · rename_i hi
      injection h with h
      subst hi h
      exact hl (i, F') (List.mem_cons_self ..)
    · exact tabAt_spec r (fun p hp => hl p (List.mem_cons_of_mem _ hp)) k F h
theorem tabL_ok : ∀ p ∈ tabL, ∃ pl, compFn Try.prog p.1 pl = some p.2 := by
  intro p hp
  simp only [tabL, List.mem_cons, List.not_mem_nil, or_false] at hp
  rcases hp with rfl | rfl | rfl | rfl | rfl | rfl | rfl | rfl | rfl | rfl | rfl | rfl | rfl | rfl | rfl | rfl | rfl | rfl | rfl | rfl | rfl | rfl | rfl | rfl | rfl | rfl | rfl | rfl | rfl | rfl | rfl | rfl | rfl | rfl | rfl | rfl | rfl | rfl | rfl | rfl | rfl | rfl | rfl | rfl | rfl | rfl | rfl | rfl | rfl | rfl | rfl | rfl | rfl | rfl | rfl | rfl | rfl | rfl | rfl | rfl | rfl | rfl | rfl | rfl | rfl | rfl | rfl | rfl | rfl | rfl | rfl | rfl | rfl | rfl | rfl | rfl | rfl | rfl | rfl | rfl | rfl | rfl | rfl | rfl | rfl | rfl | rfl | rfl | rfl | rfl | rfl | rfl | rfl | rfl | rfl | rfl | rfl | rfl | rfl | rfl
  · exact ⟨_, cf3⟩
  · exact ⟨_, cf4⟩
  · exact ⟨_, cf7⟩
  · exact ⟨_, cf8⟩
  · exact ⟨_, cf9⟩
  · exact ⟨_, cf11⟩
  · exact ⟨_, cf14⟩
  · exact ⟨_, cf15⟩
  · exact ⟨_, cf16⟩
  · exact ⟨_, cf17⟩
  · exact ⟨_, cf18⟩
  · exact ⟨_, cf19⟩
  · exact ⟨_, cf20⟩
  · exact ⟨_, cf21⟩
  · exact ⟨_, cf22⟩
  · exact ⟨_, cf23⟩
  · exact ⟨_, cf24⟩
  · exact ⟨_, cf25⟩
  · exact ⟨_, cf26⟩
  · exact ⟨_, cf27⟩
  · exact ⟨_, cf29⟩
  · exact ⟨_, cf32⟩
  · exact ⟨_, cf39⟩
  · exact ⟨_, cf40⟩
  · exact ⟨_, cf41⟩
  · exact ⟨_, cf42⟩
  · exact ⟨_, cf43⟩
  · exact ⟨_, cf44⟩
  · exact ⟨_, cf45⟩
  · exact ⟨_, cf52⟩
  · exact ⟨_, cf55⟩
  · exact ⟨_, cf56⟩
  · exact ⟨_, cf72⟩
  · exact ⟨_, cf73⟩
  · exact ⟨_, cf74⟩
  · exact ⟨_, cf75⟩
  · exact ⟨_, cf76⟩
  · exact ⟨_, cf77⟩
  · exact ⟨_, cf78⟩
  · exact ⟨_, cf79⟩
  · exact ⟨_, cf80⟩
  · exact ⟨_, cf81⟩
  · exact ⟨_, cf82⟩
  · exact ⟨_, cf83⟩
  · exact ⟨_, cf84⟩
  · exact ⟨_, cf85⟩
  · exact ⟨_, cf86⟩
  · exact ⟨_, cf87⟩
  · exact ⟨_, cf92⟩
  · exact ⟨_, cf93⟩
  · exact ⟨_, cf94⟩
  · exact ⟨_, cf95⟩
  · exact ⟨_, cf96⟩
  · exact ⟨_, cf97⟩
  · exact ⟨_, cf98⟩
  · exact ⟨_, cf106⟩
  · exact ⟨_, cf107⟩
  · exact ⟨_, cf123⟩
  · exact ⟨_, cf124⟩
  · exact ⟨_, cf125⟩
  · exact ⟨_, cf126⟩
  · exact ⟨_, cf127⟩
  · exact ⟨_, cf128⟩
  · exact ⟨_, cf129⟩
  · exact ⟨_, cf130⟩
  · exact ⟨_, cf131⟩
  · exact ⟨_, cf132⟩
  · exact ⟨_, cf138⟩
  · exact ⟨_, cf139⟩
  · exact ⟨_, cf140⟩
  · exact ⟨_, cf141⟩
  · exact ⟨_, cf142⟩
  · exact ⟨_, cf143⟩
  · exact ⟨_, cf147⟩
  · exact ⟨_, cf148⟩
  · exact ⟨_, cf149⟩
  · exact ⟨_, cf161⟩
  · exact ⟨_, cf171⟩
  · exact ⟨_, cf172⟩
  · exact ⟨_, cf173⟩
  · exact ⟨_, cf174⟩
  · exact ⟨_, cf176⟩
  · exact ⟨_, cf177⟩
  · exact ⟨_, cf178⟩
  · exact ⟨_, cf179⟩
  · exact ⟨_, cf180⟩
  · exact ⟨_, cf181⟩
  · exact ⟨_, cf182⟩
  · exact ⟨_, cf183⟩
  · exact ⟨_, cf184⟩
  · exact ⟨_, cf185⟩
  · exact ⟨_, cf197⟩
  · exact ⟨_, cf198⟩
  · exact ⟨_, cf199⟩
  · exact ⟨_, cf200⟩
  · exact ⟨_, cf201⟩
  · exact ⟨_, cf202⟩
  · exact ⟨_, cf203⟩
  · exact ⟨_, cf204⟩
  · exact ⟨_, cf211⟩
end Go.Proofs.Ytooaiddfokbffaa.E
