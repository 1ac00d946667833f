/- TopDeep: the closed facts of its row, each by itself; no conditions. -/
import Derived.Test.YtkhdliicgfmghaaGreatDoorCards
import Derived.JoinedOf
import Derived.ClosedOfChecked
import Derived.KernelRfl
namespace Go.Proofs.YtkhdliicgfmghaaGreatDoor.topDeepF
open Go
set_option maxRecDepth 100000
theorem types : Tryz.pinned.checked.prog.types = Tryz.pinned.checked.src.types := by kernel_rfl
theorem spec : ClosedOfChecked.AllSpec Tryz.pinned.checked.prog := ClosedOfChecked.allSpec_of Tryz.pinned.checked.wellFormed types
theorem rest : (Tryz.pinned.checked.prog.globals.all (fun g => decide (g.type < Tryz.pinned.checked.prog.types.size)) && Tryz.pinned.checked.prog.funcs.all (fun f => f.params.all fun t => decide (t < Tryz.pinned.checked.prog.types.size))) = true := by kernel_rfl
theorem cl : Tryz.pinned.checked.prog.closure 5 = [5, 10, 13, 32, 8, 27, 12, 29, 15, 33, 65, 115, 190, 307, 401, 402, 474, 520, 521, 191, 192, 168, 273, 274, 275, 372, 276, 373, 438, 374, 439, 308, 403, 475, 489, 490, 491, 213, 327, 193, 309, 404, 310, 405, 406, 171, 277, 371, 131, 224, 225, 66, 67, 116, 194, 118, 198, 197, 195, 117, 196, 119, 199, 311, 52, 323, 169, 102, 103, 172, 278, 375, 170, 120, 200, 313, 314, 407, 476, 477, 522, 523, 564, 478, 525, 408, 565, 526, 312, 524, 409, 34, 68, 69, 70, 121, 201, 315, 410, 479, 527, 480, 528, 411, 412, 36, 75, 129, 105, 130, 76, 77, 132, 226, 340, 341, 227, 126, 214, 228, 342, 343, 133, 134, 229, 344, 418, 419, 235, 357, 417, 345, 346, 347, 78, 101, 53, 135, 139, 230, 349, 348, 136, 79, 137, 99, 167, 38, 82, 143, 83, 84, 71, 72, 122, 123, 202, 317, 316, 124, 204, 205, 203, 206, 207, 24, 318, 26, 50, 100, 51, 55, 106, 54, 104, 319, 208, 320, 321, 209, 322, 238, 324, 325, 125, 210, 211, 326, 212, 35, 73, 74, 127, 215, 223, 339, 415, 481, 416, 328, 218, 329, 330, 333, 336, 335, 337, 331, 413, 332, 334, 414, 216, 217, 219, 220, 221, 338, 222, 128, 17, 37, 80, 81, 138, 231, 351, 350, 140, 141, 232, 97, 352, 420, 233, 353, 142, 234, 354, 421, 422, 424, 423, 482, 529, 483, 425, 426, 427, 484, 428, 485, 429, 430, 486, 355, 356, 431, 488, 539, 540, 487, 530, 536, 571, 531, 566, 532, 567, 568, 533, 569, 570, 580, 534, 535, 537, 538, 432, 40, 39, 85, 144, 145, 146, 236, 358, 41, 86, 87, 88, 90, 91, 89, 147, 42, 23, 92, 93, 148, 237, 150, 149, 61, 112, 186, 187, 303, 396, 188, 304, 397, 152, 240, 470, 111, 179, 296, 298, 301, 302, 297, 183, 299, 184, 180, 181, 182, 185, 300, 113, 189, 305, 399, 473, 398, 471, 518, 472, 519, 555, 561, 579, 556, 576, 557, 558, 577, 578, 581, 559, 560, 562, 563, 400, 306, 94, 151, 239, 153, 154, 43, 56, 30, 57, 107, 173, 279, 376, 377, 440, 492, 493, 494, 441, 495, 496, 497, 498, 499, 463, 280, 174, 281, 378, 442, 500, 541, 542, 282, 379, 443, 444, 380, 283, 284, 58, 108, 109, 175, 285, 382, 383, 446, 502, 501, 543, 447, 503, 504, 544, 545, 448, 505, 547, 546, 572, 548, 549, 573, 506, 550, 574, 381, 445, 384, 385, 449, 450, 286, 20, 21, 22, 287, 288, 386, 451, 507, 452, 508, 551, 289, 387, 454, 455, 456, 509, 510, 453, 388, 457, 458, 459, 389, 390, 460, 461, 462, 176, 110, 177, 166, 290, 98, 291, 245, 178, 292, 391, 464, 511, 465, 512, 466, 392, 467, 513, 553, 552, 515, 514, 468, 294, 293, 393, 394, 395, 469, 516, 517, 554, 575, 367, 437, 295, 59, 19, 45, 95, 155, 242, 360, 361, 243, 433, 362, 244, 436, 434, 435, 368, 241, 359, 156, 157, 96, 158, 159, 246, 249, 248, 247, 250, 251, 264, 165, 252, 253, 160, 254, 363, 364, 255, 259, 256, 257, 258, 365, 260, 262, 161, 261, 162, 263, 366, 265, 266, 267, 163, 268, 269, 270, 369, 271, 370, 164, 272, 46, 47, 48, 60, 18, 44, 31, 25, 49, 62, 64, 114, 63, 9] := by kernel_rfl
theorem unfT : Tryz.pinned.checked.prog.unfollowed 5 = true := by unfold Program.unfollowed; rw [cl]; kernel_rfl
theorem wf_ : Rows.topDeepRow.wf (OpenSpec.ofChange Rows.topDeepSpec) = true := by kernel_rfl
theorem laid : laidOutB Tryz.pinned.checked.prog = true := ClosedOfChecked.laidOutB_of spec rest
theorem rowed : mapsRowed Tryz.pinned.checked.prog = true := ClosedOfChecked.mapsRowed_of spec
theorem pars_ : Tryz.f5.params.all (Tryz.pinned.checked.prog.readableRec ·) = true := by kernel_rfl
theorem tie_ : namedTie Tryz.pinned.checked.prog Rows.topDeepRow.named Rows.topDeepSpec.vars = true := by kernel_rfl
theorem st_ : (Rows.topDeepRow.stops == []) = true := by kernel_rfl
theorem pst_ : (Tryz.pinned.checked.prog.stops == []) = true := by kernel_rfl
theorem kn_ : (Rows.topDeepRow.knobs == []) = true := by kernel_rfl
theorem pkn_ : (Tryz.pinned.checked.prog.stopKnobs == []) = true := by kernel_rfl
theorem inp_ : (Rows.topDeepRow.inPlace == Tryz.pinned.checked.prog.inPlace 5) = true := by unfold Program.inPlace; rw [cl]; kernel_rfl
theorem unf_ : (Rows.topDeepRow.unfollowed == Tryz.pinned.checked.prog.unfollowed 5) = true := by rw [unfT]; kernel_rfl
theorem rec_ : (Rows.topDeepRow.recurses == Tryz.pinned.checked.prog.recurses 5) = true := by unfold Program.recurses; rw [unfT]; kernel_rfl
theorem nam_ : (Rows.topDeepRow.named == Tryz.pinned.checked.prog.varsNamed 5) = true := by unfold Program.varsNamed; rw [cl]; kernel_rfl
theorem map_ : (Rows.topDeepRow.maps == (Tryz.f5.params.toList ++ Rows.topDeepSpec.plain.varTypes Tryz.pinned.checked.prog).any (Tryz.pinned.checked.prog.mapsRec ·)) = true := by kernel_rfl
theorem ifa_ : (Rows.topDeepRow.ifaces == (Tryz.f5.params.toList ++ Rows.topDeepSpec.plain.varTypes Tryz.pinned.checked.prog).any (Tryz.pinned.checked.prog.ifacesRec ·)) = true := by kernel_rfl
theorem mpo_ : (Rows.topDeepRow.mapsOut == Tryz.pinned.checked.prog.mapsAmong Tryz.f5.resultTypes.toList) = true := by kernel_rfl
theorem loo_ : (Rows.topDeepRow.loops == (Tryz.f5.params.toList ++ Rows.topDeepSpec.plain.varTypes Tryz.pinned.checked.prog).any (Tryz.pinned.checked.prog.loopsFrom ·)) = true := by kernel_rfl
theorem wid_ : (Rows.topDeepRow.wideKeys == (Tryz.f5.params.toList ++ Rows.topDeepSpec.plain.varTypes Tryz.pinned.checked.prog ++ Tryz.f5.resultTypes.toList).any (Tryz.pinned.checked.prog.wideKeysFrom ·)) = true := by kernel_rfl
theorem var_ : Rows.topDeepSpec.vars.all (Tryz.pinned.checked.prog.varReadable ·) = true := by kernel_rfl
theorem res_ : Tryz.f5.resultTypes.all (fun t => Tryz.pinned.checked.prog.readableRec t && decide (t < Tryz.pinned.checked.prog.types.size)) = true := by kernel_rfl
theorem ifo_ : (Rows.topDeepRow.ifacesOut == Tryz.f5.resultTypes.toList.any (Tryz.pinned.checked.prog.ifacesRec ·)) = true := by kernel_rfl
theorem lpo_ : (Rows.topDeepRow.loopsOut == Tryz.f5.resultTypes.toList.any (Tryz.pinned.checked.prog.loopsFrom ·)) = true := by kernel_rfl
theorem pla_ : (Rows.topDeepRow.plainKeys == Tryz.pinned.checked.prog.plainKeys) = true := by kernel_rfl
theorem sho_ : Rows.topDeepRow.shortTexts.isNone = true := by kernel_rfl
theorem hea_ : Tryz.pinned.checked.prog.stopsHeard = true := by kernel_rfl
theorem may_ : Tryz.pinned.checked.prog.mayEnter = true := by kernel_rfl
theorem lif_ : (Rows.topDeepRow.lifted == Tryz.pinned.checked.prog.liftsFinal) = true := by kernel_rfl
theorem mak_ : (Tryz.pinned.checked.prog.make == some Rows.topDeepRow.make) = true := by kernel_rfl
theorem kin_ : (Rows.topDeepRow.kinds == (if Rows.topDeepRow.domain.isEmpty then [] else Tryz.f5.params.toList.map fun t => match Tryz.pinned.checked.prog.underlying t with | some (.int k) => some k | _ => none)) = true := by kernel_rfl
theorem pin_ : (Rows.topDeepRow.pinned == Rows.topDeepRow.pinnedBy) = true := by kernel_rfl
theorem vei_ : (Rows.topDeepRow.veiled == (Tryz.f5.params.toList ++ Rows.topDeepSpec.plain.varTypes Tryz.pinned.checked.prog ++ Tryz.f5.resultTypes.toList).any (Tryz.pinned.checked.prog.veiledRec ·)) = true := by kernel_rfl
theorem fit_ : Rows.topDeepRow.veiledFits Tryz.pinned.checked.prog Tryz.f5.params.toList (Tryz.f5.params.toList ++ Rows.topDeepSpec.plain.varTypes Tryz.pinned.checked.prog ++ Tryz.f5.resultTypes.toList) = true := by kernel_rfl
theorem band {a b : Bool} (ha : a = true) (hb : b = true) : (a && b) = true := by rw [ha, hb]; rfl
theorem joined : joinedFacts Tryz.pinned.checked.prog 5 Tryz.f5 Rows.topDeepSpec Rows.topDeepRow = true := by
  unfold joinedFacts
  exact (band (band (band (band (band (band (band (band (band (band (band (band (band (band (band (band (band (band (band (band (band (band (band (band (band (band (band (band (band (band (band wf_ laid) rowed) pars_) tie_) st_) pst_) kn_) pkn_) inp_) unf_) rec_) nam_) map_) ifa_) mpo_) loo_) wid_) var_) res_) ifo_) lpo_) pla_) sho_) hea_) may_) lif_) mak_) kin_) pin_) vei_) fit_)
theorem named : Tryz.pinned.checked.prog.funcNamed Rows.topDeepRow.func = some 5 := by kernel_rfl
theorem inst : Tryz.f5.isInstance Tryz.pinned.checked.prog Rows.topDeepRow.origin Rows.topDeepRow.targs := of_decide_eq_true (by kernel_rfl)
theorem wrap : Tryz.f5.isWrapper Tryz.pinned.checked.prog Rows.topDeepRow.wrapper Rows.topDeepRow.mainSum := by unfold Func.isWrapper; first | (rw [if_pos (by decide +kernel)]; kernel_rfl) | (rw [if_neg (by decide +kernel)]; exact ⟨rfl, rfl⟩)
theorem wft : Rows.topDeepRow.wfByText (OpenSpec.ofChange Rows.topDeepSpec) = true := by kernel_rfl
theorem main : Tryz.pinned.checked.prog.mainIs = some (true, "464cd97bd335f9d931e3e3d2d892c247bb4778c4cf62583c347dffab18f795f0".toList) := by kernel_rfl
theorem looks : true = Tryz.pinned.checked.prog.looks [] := by kernel_rfl
theorem goes0 : Tryz.pinned.checked.prog.goes 5 = false := by unfold Program.goes; rw [cl, unfT]; kernel_rfl
theorem goes : false = Rows.topDeepRow.goesBy Tryz.pinned.checked.prog := by unfold OpenClaim.goesBy Program.goesAt Program.goesFrom; rw [named, Option.any_some, goes0]; rfl
theorem lawIs : Tryz.prog.funcNamed "hornbook/hornbooktop.TopDeep" = some 5 := named
theorem stand : ([3].all fun u => !Tryz.prog.wantsStandIn u) = true := by kernel_rfl
end Go.Proofs.YtkhdliicgfmghaaGreatDoor.topDeepF
