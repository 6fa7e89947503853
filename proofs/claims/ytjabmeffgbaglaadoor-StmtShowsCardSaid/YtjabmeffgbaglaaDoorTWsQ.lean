/- Words of the constant texts of commands. No condition. -/
import Derived.Test.YtjabmeffgbaglaaDoorTXsD
namespace Go.Proofs.YtjabmeffgbaglaaDoor
open Go Go.RowKit Go.Proofs.YtjabmeffgbaglaaDoor.Ab
set_option linter.unusedSimpArgs false
set_option linter.unusedVariables false
set_option maxRecDepth 10000
set_option maxHeartbeats 2000000
theorem fields_CREATE_TABLE : Fld [67, 82, 69, 65, 84, 69, 32, 84, 65, 66, 76, 69] [[67, 82, 69, 65, 84, 69], [84, 65, 66, 76, 69]] := zzF
theorem tokens_CREATE_TABLE : Tks [67, 82, 69, 65, 84, 69, 32, 84, 65, 66, 76, 69] [wdT [67, 82, 69, 65, 84, 69], wdT [84, 65, 66, 76, 69]] := tokens_gen _ _ fields_CREATE_TABLE (by decide) (by decide)
theorem fields_VALUES : Fld [86, 65, 76, 85, 69, 83] [[86, 65, 76, 85, 69, 83]] := zzF
theorem fields_SET : Fld [83, 69, 84] [[83, 69, 84]] := zzF
theorem tokens_SET : Tks [83, 69, 84] [wdT [83, 69, 84]] := tokens_gen _ _ fields_SET (by decide) (by decide)
theorem fields_GRANT_READ_ON : Fld [71, 82, 65, 78, 84, 32, 82, 69, 65, 68, 32, 79, 78] [[71, 82, 65, 78, 84], [82, 69, 65, 68], [79, 78]] := zzF
theorem tokens_GRANT_READ_ON : Tks [71, 82, 65, 78, 84, 32, 82, 69, 65, 68, 32, 79, 78] [wdT [71, 82, 65, 78, 84], wdT [82, 69, 65, 68], wdT [79, 78]] := tokens_gen _ _ fields_GRANT_READ_ON (by decide) (by decide)
theorem fields_TO : Fld [84, 79] [[84, 79]] := zzF
theorem tokens_TO : Tks [84, 79] [wdT [84, 79]] := tokens_gen _ _ fields_TO (by decide) (by decide)
theorem fields_REVOKE_READ_ON : Fld [82, 69, 86, 79, 75, 69, 32, 82, 69, 65, 68, 32, 79, 78] [[82, 69, 86, 79, 75, 69], [82, 69, 65, 68], [79, 78]] := zzF
theorem tokens_REVOKE_READ_ON : Tks [82, 69, 86, 79, 75, 69, 32, 82, 69, 65, 68, 32, 79, 78] [wdT [82, 69, 86, 79, 75, 69], wdT [82, 69, 65, 68], wdT [79, 78]] := tokens_gen _ _ fields_REVOKE_READ_ON (by decide) (by decide)
theorem fields_FROM : Fld [70, 82, 79, 77] [[70, 82, 79, 77]] := zzF
theorem tokens_FROM : Tks [70, 82, 79, 77] [wdT [70, 82, 79, 77]] := tokens_gen _ _ fields_FROM (by decide) (by decide)
theorem fields_BOOL : Fld [66, 79, 79, 76] [[66, 79, 79, 76]] := zzF
theorem tokens_BOOL : Tks [66, 79, 79, 76] [wdT [66, 79, 79, 76]] := tokens_gen _ _ fields_BOOL (by decide) (by decide)
theorem fields_REAL : Fld [82, 69, 65, 76] [[82, 69, 65, 76]] := zzF
theorem tokens_REAL : Tks [82, 69, 65, 76] [wdT [82, 69, 65, 76]] := tokens_gen _ _ fields_REAL (by decide) (by decide)
theorem fields_SELECT : Fld [83, 69, 76, 69, 67, 84] [[83, 69, 76, 69, 67, 84]] := zzF
theorem tokens_SELECT : Tks [83, 69, 76, 69, 67, 84] [wdT [83, 69, 76, 69, 67, 84]] := tokens_gen _ _ fields_SELECT (by decide) (by decide)
theorem fields_SUM : Fld [83, 85, 77] [[83, 85, 77]] := zzF
theorem fields_MAX : Fld [77, 65, 88] [[77, 65, 88]] := zzF
theorem fields_GROUP_BY : Fld [71, 82, 79, 85, 80, 32, 66, 89] [[71, 82, 79, 85, 80], [66, 89]] := zzF
theorem tokens_GROUP_BY : Tks [71, 82, 79, 85, 80, 32, 66, 89] [wdT [71, 82, 79, 85, 80], wdT [66, 89]] := tokens_gen _ _ fields_GROUP_BY (by decide) (by decide)
theorem fields_LIMIT : Fld [76, 73, 77, 73, 84] [[76, 73, 77, 73, 84]] := zzF
theorem tokens_LIMIT : Tks [76, 73, 77, 73, 84] [wdT [76, 73, 77, 73, 84]] := tokens_gen _ _ fields_LIMIT (by decide) (by decide)
theorem fields_DRAWER : Fld [68, 82, 65, 87, 69, 82] [[68, 82, 65, 87, 69, 82]] := zzF
theorem tokens_DRAWER : Tks [68, 82, 65, 87, 69, 82] [wdT [68, 82, 65, 87, 69, 82]] := tokens_gen _ _ fields_DRAWER (by decide) (by decide)
theorem fields_COUNT_l_x_r : Fld [67, 79, 85, 78, 84, 32, 40, 32, 42, 32, 41] [[67, 79, 85, 78, 84], [40], [42], [41]] := zzF
theorem tokens_COUNT_l_x_r : Tks [67, 79, 85, 78, 84, 32, 40, 32, 42, 32, 41] [wdT [67, 79, 85, 78, 84], sgT [40], sgT [42], sgT [41]] := tokens_gen _ _ fields_COUNT_l_x_r (by decide) (by decide)
theorem fields_MIN_l : Fld [77, 73, 78, 32, 40] [[77, 73, 78], [40]] := zzF
theorem tokens_MIN_l : Tks [77, 73, 78, 32, 40] [wdT [77, 73, 78], sgT [40]] := tokens_gen _ _ fields_MIN_l (by decide) (by decide)
theorem fields_dot : Fld [46] [[46]] := zzF
theorem tokens_dot : Tks [46] [sgT [46]] := tokens_gen _ _ fields_dot (by decide) (by decide)
end Go.Proofs.YtjabmeffgbaglaaDoor
namespace Go.Proofs.YtjabmeffgbaglaaDoor
open Go Go.RowKit Go.Proofs.YtjabmeffgbaglaaDoor.Ab
set_option linter.unusedSimpArgs false
set_option linter.unusedVariables false
set_option maxRecDepth 10000
set_option maxHeartbeats 2000000
theorem fields_INSERT_INTO : Fld [73, 78, 83, 69, 82, 84, 32, 73, 78, 84, 79] [[73, 78, 83, 69, 82, 84], [73, 78, 84, 79]] := zzF
theorem tokens_INSERT_INTO : Tks [73, 78, 83, 69, 82, 84, 32, 73, 78, 84, 79] [wdT [73, 78, 83, 69, 82, 84], wdT [73, 78, 84, 79]] := tokens_gen _ _ fields_INSERT_INTO (by decide) (by decide)
theorem fields_UPDATE : Fld [85, 80, 68, 65, 84, 69] [[85, 80, 68, 65, 84, 69]] := zzF
theorem tokens_UPDATE : Tks [85, 80, 68, 65, 84, 69] [wdT [85, 80, 68, 65, 84, 69]] := tokens_gen _ _ fields_UPDATE (by decide) (by decide)
theorem fields_DELETE_FROM : Fld [68, 69, 76, 69, 84, 69, 32, 70, 82, 79, 77] [[68, 69, 76, 69, 84, 69], [70, 82, 79, 77]] := zzF
theorem tokens_DELETE_FROM : Tks [68, 69, 76, 69, 84, 69, 32, 70, 82, 79, 77] [wdT [68, 69, 76, 69, 84, 69], wdT [70, 82, 79, 77]] := tokens_gen _ _ fields_DELETE_FROM (by decide) (by decide)
theorem fields_GRANT_WRITE_ON : Fld [71, 82, 65, 78, 84, 32, 87, 82, 73, 84, 69, 32, 79, 78] [[71, 82, 65, 78, 84], [87, 82, 73, 84, 69], [79, 78]] := zzF
theorem tokens_GRANT_WRITE_ON : Tks [71, 82, 65, 78, 84, 32, 87, 82, 73, 84, 69, 32, 79, 78] [wdT [71, 82, 65, 78, 84], wdT [87, 82, 73, 84, 69], wdT [79, 78]] := tokens_gen _ _ fields_GRANT_WRITE_ON (by decide) (by decide)
theorem fields_WITH_OPTION : Fld [87, 73, 84, 72, 32, 79, 80, 84, 73, 79, 78] [[87, 73, 84, 72], [79, 80, 84, 73, 79, 78]] := zzF
theorem tokens_WITH_OPTION : Tks [87, 73, 84, 72, 32, 79, 80, 84, 73, 79, 78] [wdT [87, 73, 84, 72], wdT [79, 80, 84, 73, 79, 78]] := tokens_gen _ _ fields_WITH_OPTION (by decide) (by decide)
theorem fields_REVOKE_WRITE_ON : Fld [82, 69, 86, 79, 75, 69, 32, 87, 82, 73, 84, 69, 32, 79, 78] [[82, 69, 86, 79, 75, 69], [87, 82, 73, 84, 69], [79, 78]] := zzF
theorem tokens_REVOKE_WRITE_ON : Tks [82, 69, 86, 79, 75, 69, 32, 87, 82, 73, 84, 69, 32, 79, 78] [wdT [82, 69, 86, 79, 75, 69], wdT [87, 82, 73, 84, 69], wdT [79, 78]] := tokens_gen _ _ fields_REVOKE_WRITE_ON (by decide) (by decide)
theorem fields_NOT_NULL : Fld [78, 79, 84, 32, 78, 85, 76, 76] [[78, 79, 84], [78, 85, 76, 76]] := zzF
theorem tokens_NOT_NULL : Tks [78, 79, 84, 32, 78, 85, 76, 76] [wdT [78, 79, 84], wdT [78, 85, 76, 76]] := tokens_gen _ _ fields_NOT_NULL (by decide) (by decide)
theorem fields_INT : Fld [73, 78, 84] [[73, 78, 84]] := zzF
theorem tokens_INT : Tks [73, 78, 84] [wdT [73, 78, 84]] := tokens_gen _ _ fields_INT (by decide) (by decide)
theorem fields_TEXT : Fld [84, 69, 88, 84] [[84, 69, 88, 84]] := zzF
theorem tokens_TEXT : Tks [84, 69, 88, 84] [wdT [84, 69, 88, 84]] := tokens_gen _ _ fields_TEXT (by decide) (by decide)
theorem fields_COUNT : Fld [67, 79, 85, 78, 84] [[67, 79, 85, 78, 84]] := zzF
theorem fields_MIN : Fld [77, 73, 78] [[77, 73, 78]] := zzF
theorem fields_WHERE : Fld [87, 72, 69, 82, 69] [[87, 72, 69, 82, 69]] := zzF
theorem tokens_WHERE : Tks [87, 72, 69, 82, 69] [wdT [87, 72, 69, 82, 69]] := tokens_gen _ _ fields_WHERE (by decide) (by decide)
theorem fields_ORDER_BY : Fld [79, 82, 68, 69, 82, 32, 66, 89] [[79, 82, 68, 69, 82], [66, 89]] := zzF
theorem tokens_ORDER_BY : Tks [79, 82, 68, 69, 82, 32, 66, 89] [wdT [79, 82, 68, 69, 82], wdT [66, 89]] := tokens_gen _ _ fields_ORDER_BY (by decide) (by decide)
theorem fields_DESC : Fld [68, 69, 83, 67] [[68, 69, 83, 67]] := zzF
theorem tokens_DESC : Tks [68, 69, 83, 67] [wdT [68, 69, 83, 67]] := tokens_gen _ _ fields_DESC (by decide) (by decide)
theorem fields_VALUES_l : Fld [86, 65, 76, 85, 69, 83, 32, 40] [[86, 65, 76, 85, 69, 83], [40]] := zzF
theorem tokens_VALUES_l : Tks [86, 65, 76, 85, 69, 83, 32, 40] [wdT [86, 65, 76, 85, 69, 83], sgT [40]] := tokens_gen _ _ fields_VALUES_l (by decide) (by decide)
theorem fields_SUM_l : Fld [83, 85, 77, 32, 40] [[83, 85, 77], [40]] := zzF
theorem tokens_SUM_l : Tks [83, 85, 77, 32, 40] [wdT [83, 85, 77], sgT [40]] := tokens_gen _ _ fields_SUM_l (by decide) (by decide)
theorem fields_MAX_l : Fld [77, 65, 88, 32, 40] [[77, 65, 88], [40]] := zzF
theorem tokens_MAX_l : Tks [77, 65, 88, 32, 40] [wdT [77, 65, 88], sgT [40]] := tokens_gen _ _ fields_MAX_l (by decide) (by decide)
theorem fields_eq : Fld [61] [[61]] := zzF
theorem tokens_eq : Tks [61] [sgT [61]] := tokens_gen _ _ fields_eq (by decide) (by decide)
end Go.Proofs.YtjabmeffgbaglaaDoor
